import Derived.Test.YtpbkepajgdmbpaaDoorTCk
import Derived.Test.YtpbkepajgdmbpaaDoorMSt
import Derived.Test.YtpbkepajgdmbpaaDoorBox
set_option linter.all false
set_option maxRecDepth 100000
namespace Go.Proofs.YtpbkepajgdmbpaaDoor
open Go.RowKit
attribute [local go_sem] Oper.semAt_some
def prufer_Read_L1 (F : Nat) (v0 : List Int) : Nat → (Int) → (List Int) → Option (List Int)
  | 0, _, _ => none
  | g+1, j, v4 => if j < ((v0).length : Int) then (ix v0 j).bind fun y => (ix v4 y).bind fun y4 => (st v4 y (wrap64 (y4 + 1))).bind fun y3 => prufer_Read_L1 F v0 g (wrap64 (j + 1)) (y3) else some (v4)
theorem prufer_Read_L1_0 (F : Nat) (v0 : List Int) (v4 : List Int) (j : Int) : prufer_Read_L1 F v0 0 j v4 = none := by rw [prufer_Read_L1]
theorem prufer_Read_L1_s (F g : Nat) (v0 : List Int) (v4 : List Int) (j : Int) : prufer_Read_L1 F v0 (g+1) j v4 = (if j < ((v0).length : Int) then (ix v0 j).bind fun y => (ix v4 y).bind fun y4 => (st v4 y (wrap64 (y4 + 1))).bind fun y3 => prufer_Read_L1 F v0 g (wrap64 (j + 1)) (y3) else some (v4)) := by rw [prufer_Read_L1]
def prufer_Read_L3 (F : Nat) (v10 : Int) : List Nat → (List Int) → (List Nat) → (Nat) → Option (List Int × List Nat × Nat)
  | [], v4, v7, v8 => some (v4, v7, v8)
  | x :: xs, v4, v7, v8 => ((ix v4 (x : Int)).bind fun y8 => if (y8 == 0) = true then (ix v7 (gmin (x : Int) v10)).bind fun y10 => (sWith (y10) ((gmax (x : Int) v10))).bind fun y11 => (st v7 (gmin (x : Int) v10) y11).bind fun y9 => (sWithout (v8) ((x : Int))).bind fun y12 => (ix v4 v10).bind fun y14 => (st v4 v10 (wrap64 (y14 - 1))).bind fun y13 => some (y13, y9, y12) else prufer_Read_L3 F v10 xs (v4) (v7) (v8))
theorem prufer_Read_L3_n (F : Nat) (v10 : Int) (v4 : List Int) (v7 : List Nat) (v8 : Nat) : prufer_Read_L3 F v10 [] v4 v7 v8 = some (v4, v7, v8) := by rw [prufer_Read_L3]
theorem prufer_Read_L3_c (F : Nat) (v10 : Int) (v4 : List Int) (v7 : List Nat) (v8 : Nat) (x : Nat) (xs : List Nat) : prufer_Read_L3 F v10 (x :: xs) v4 v7 v8 = (((ix v4 (x : Int)).bind fun y8 => if (y8 == 0) = true then (ix v7 (gmin (x : Int) v10)).bind fun y10 => (sWith (y10) ((gmax (x : Int) v10))).bind fun y11 => (st v7 (gmin (x : Int) v10) y11).bind fun y9 => (sWithout (v8) ((x : Int))).bind fun y12 => (ix v4 v10).bind fun y14 => (st v4 v10 (wrap64 (y14 - 1))).bind fun y13 => some (y13, y9, y12) else prufer_Read_L3 F v10 xs (v4) (v7) (v8))) := by rw [prufer_Read_L3]
def prufer_Read_L2 (F : Nat) (v0 : List Int) : Nat → (Int) → (List Int) → (List Nat) → (Nat) → Option (List Int × List Nat × Nat)
  | 0, _, _, _, _ => none
  | g+1, j, v4, v7, v8 => if j < ((v0).length : Int) then (ix v0 j).bind fun y => (sEach v8).bind fun y16 => (prufer_Read_L3 F (y) y16 (v4) (v7) (v8)).bind fun o15 => prufer_Read_L2 F v0 g (wrap64 (j + 1)) (o15.1) (o15.2.1) (o15.2.2) else some (v4, v7, v8)
theorem prufer_Read_L2_0 (F : Nat) (v0 : List Int) (v4 : List Int) (v7 : List Nat) (v8 : Nat) (j : Int) : prufer_Read_L2 F v0 0 j v4 v7 v8 = none := by rw [prufer_Read_L2]
theorem prufer_Read_L2_s (F g : Nat) (v0 : List Int) (v4 : List Int) (v7 : List Nat) (v8 : Nat) (j : Int) : prufer_Read_L2 F v0 (g+1) j v4 v7 v8 = (if j < ((v0).length : Int) then (ix v0 j).bind fun y => (sEach v8).bind fun y16 => (prufer_Read_L3 F (y) y16 (v4) (v7) (v8)).bind fun o15 => prufer_Read_L2 F v0 g (wrap64 (j + 1)) (o15.1) (o15.2.1) (o15.2.2) else some (v4, v7, v8)) := by rw [prufer_Read_L2]
def prufer_Read_L5 (F : Nat) (v14 : Int) : List Nat → (List (Int × Int)) → Option (List (Int × Int))
  | [], v13 => some (v13)
  | x :: xs, v13 => (app v13 (v14, (x : Int))).bind fun y25 => prufer_Read_L5 F v14 xs (y25)
theorem prufer_Read_L5_n (F : Nat) (v14 : Int) (v13 : List (Int × Int)) : prufer_Read_L5 F v14 [] v13 = some (v13) := by rw [prufer_Read_L5]
theorem prufer_Read_L5_c (F : Nat) (v14 : Int) (v13 : List (Int × Int)) (x : Nat) (xs : List Nat) : prufer_Read_L5 F v14 (x :: xs) v13 = ((app v13 (v14, (x : Int))).bind fun y25 => prufer_Read_L5 F v14 xs (y25)) := by rw [prufer_Read_L5]
def prufer_Read_L4 (F : Nat) (v7 : List Nat) : Nat → (Int) → (List (Int × Int)) → Option (List (Int × Int))
  | 0, _, _ => none
  | g+1, j, v13 => if j < ((v7).length : Int) then (ix v7 j).bind fun y => (sEach y).bind fun y27 => (prufer_Read_L5 F (j) y27 (v13)).bind fun o26 => prufer_Read_L4 F v7 g (wrap64 (j + 1)) (o26) else some (v13)
theorem prufer_Read_L4_0 (F : Nat) (v7 : List Nat) (v13 : List (Int × Int)) (j : Int) : prufer_Read_L4 F v7 0 j v13 = none := by rw [prufer_Read_L4]
theorem prufer_Read_L4_s (F g : Nat) (v7 : List Nat) (v13 : List (Int × Int)) (j : Int) : prufer_Read_L4 F v7 (g+1) j v13 = (if j < ((v7).length : Int) then (ix v7 j).bind fun y => (sEach y).bind fun y27 => (prufer_Read_L5 F (j) y27 (v13)).bind fun o26 => prufer_Read_L4 F v7 g (wrap64 (j + 1)) (o26) else some (v13)) := by rw [prufer_Read_L4]
def prufer_Read (F : Nat) (v0 : List Int) : Option (List (Int × Int) × Int) := (if 8 < (wrap64 (((v0).length : Int) + 2)) then some (([], 4)) else ((core_All F (v0) (0) ((wrap64 ((wrap64 (((v0).length : Int) + 2)) - 1)))).bind fun y1 => if y1 = true then (mkI (wrap64 (((v0).length : Int) + 2))).bind fun y2 => (prufer_Read_L1 F (v0) F (0) (y2)).bind fun o5 => (mkM (wrap64 (((v0).length : Int) + 2))).bind fun y6 => (sBelow ((wrap64 (((v0).length : Int) + 2)))).bind fun y7 => (prufer_Read_L2 F (v0) F (0) (o5) (y6) (y7)).bind fun o17 => (sList (o17.2.2)).bind fun y18 => (ix y18 0).bind fun y20 => (ix y18 0).bind fun y21 => (ix o17.2.1 y21).bind fun y22 => (ix y18 1).bind fun y23 => (sWith (y22) (y23)).bind fun y24 => (st o17.2.1 y20 y24).bind fun y19 => (prufer_Read_L4 F (y19) F (0) ([])).bind fun o28 => some ((o28, 0)) else some (([], 1))))
set_option maxRecDepth 100000 in
set_option maxHeartbeats 4000000 in
theorem prufer_Read_ok {F : Nat} {v0 : List Int} {A0 : Option Addr} {r : List (Int × Int) × Int} (w : World) (cap0 : Nat) (hr0 : ReadsI w w.heap.size A0 v0) (h : prufer_Read F v0 = some r) :
    Calls Tryd.prog 11 #[.slice A0 v0.length cap0] w (PostG (fun v => (.tuple #[v, (errV 44 r.2)])) (fun v => owL v r.1) w.heap.size w) := by
  have HR0 := Lib.hid hr0; clear hr0
  have HD := Lib.hid (Below.refl w.heap.size w)
  have HOA := Lib.hid (HP.nil (W := w) (B := w.heap.size))
  unfold prufer_Read at h
  have HM := Lib.hid h; clear h
  have HMK := Lib.hid (Marks.nil w.heap.size w)
  refine (callsIn_wide (n := 5)).1 ?_
  refine callsIn_of_wp_marks Tryd.func11 rfl trivial ?_ rfl
  simp only [Tryd.ntmps11, List.size_toArray, List.length_cons, List.length_nil, Nat.reduceAdd, Nat.reduceSub, Array.replicate_succ, Array.replicate_zero, List.push_toArray, List.append_toArray, List.nil_append, List.cons_append]
  refine wpIn_wide.2 ?_
  by_cases hc1 : 8 < (wrap64 (((v0).length : Int) + 2))
  · replace HM := Lib.hid (ifT hc1 HM.out)
    have HK2 := Lib.hid hc1
    obtain rfl := Option.some.inj HM.out
    go_wp2_with fail
    try clear hc1
    refine leave_marks (B := w.heap.size) _ _ HMK.out (fun W' => results_tmp2 rfl _ _ _) (fun W' hk => ⟨_, rfl, World.ownsRow_nil _ _ _ _, hk.below HD.out (Nat.le_refl _) (Nat.le_refl _)⟩)
  · replace HM := Lib.hid (ifF hc1 HM.out)
    have hc1d := decide_eq_false hc1
    have HK2 := Lib.hid hc1
    obtain ⟨y5, hy3, hm⟩ := obind HM.out
    replace HM := Lib.hid hm; clear hm
    have HC4 := core_All_ok w cap0 (rdI HD.out HR0.out) hy3
    clear hy3
    replace HC4 := Lib.hid HC4
    cases y5
    · replace HM := Lib.hid (ifF Bool.false_ne_true HM.out)
      obtain rfl := Option.some.inj HM.out
      go_wp2_with fail
      refine HC4.out.mono ?_; rintro e w' ⟨rfl, rfl⟩
      go_wp2_with fail
      try clear hc1 hc1d
      refine leave_marks (B := w.heap.size) _ _ HMK.out (fun W' => results_tmp2 rfl _ _ _) (fun W' hk => ⟨_, rfl, World.ownsRow_nil _ _ _ _, hk.below HD.out (Nat.le_refl _) (Nat.le_refl _)⟩)
    · replace HM := Lib.hid (ifT rfl HM.out)
      go_wp2_with fail
      refine HC4.out.mono ?_; rintro e w' ⟨rfl, rfl⟩
      obtain ⟨y6, hy7, hm⟩ := obind HM.out
      replace HM := Lib.hid hm; clear hm
      obtain ⟨f8, hy7⟩ := mkI_some hy7
      obtain ⟨N12, hN13⟩ : ∃ N, Int.toNat (wrap64 (((v0).length : Int) + 2)) = N := ⟨_, rfl⟩
      rw [hN13] at hy7; subst hy7
      have hmk9 := run_makeI f8; simp only [hN13] at hmk9
      have hd : Below w.heap.size w (w.alloc (.cells (Array.replicate N12 (Value.int .i64 0)) 3)) := (Below.refl _ _).alloc (Nat.le_refl _) _
      have ho := mkI_ok w f8; rw [hN13] at ho; clear hN13
      have ho2 := owX_ok (w.alloc (.cells (Array.replicate N12 (Value.int .i64 0)) 3)) 23 (.slice (some ⟨w.heap.size, 0, none⟩) N12 N12)
      have hd2 : Below (World.heap (w.alloc (.cells (Array.replicate N12 (Value.int .i64 0)) 3))).size (w.alloc (.cells (Array.replicate N12 (Value.int .i64 0)) 3)) (World.alloc (w.alloc (.cells (Array.replicate N12 (Value.int .i64 0)) 3)) (.cells #[(.slice (some ⟨w.heap.size, 0, none⟩) N12 N12)] 23)) := (Below.refl _ _).alloc (Nat.le_refl _) _
      have hoa := (HOA.out.call hd HD.out.size ho).call hd2 (Nat.le_trans HD.out.size hd.size) ho2
      replace hd := hd.trans (hd2.mono hd.size)
      simp only [World.size_alloc] at hoa
      clear ho ho2 hd2
      go_upto_region 7 with (fail)
      generalize hW : World.alloc (World.alloc w _) _ = W10 at *
      clear hW hmk9 f8
      try clear hc1 hc1d
      replace HOA := Lib.hid hoa; clear hoa
      replace HD := Lib.hid (HD.out.trans (hd.mono HD.out.size))
      replace HMK := Lib.hid (HMK.out.nc (NC.of_below hd))
      clear hd
      go_wp2_with fail
      obtain ⟨o15, ho, hm⟩ := obind HM.out
      replace HM := Lib.hid hm; have HL1 := Lib.hid ho; clear hm ho
      go_loopg [34] F (fun gg uj wr => ∃ (j17 : Int) (x16 : List Int), uj = .int .i64 j17 ∧ Hid (Below w.heap.size w wr) ∧ Hid (HP wr w.heap.size [.fl (owX 23 (some ⟨(w.heap.size + 1), 0, none⟩) ((.slice (some ⟨w.heap.size, 0, none⟩) N12 N12))), .fl (owI (.slice (some ⟨w.heap.size, 0, none⟩) N12 N12) (x16))]) ∧ Hid (Marks w.heap.size [] wr) ∧ Hid (prufer_Read_L1 F (v0) gg j17 x16 = some o15))
      case atStart => exact ⟨0, (List.replicate N12 0), rfl, HD, HOA, HMK, HL1⟩
      case round =>
        obtain ⟨j17, x16, rfl, HD, HOA, HMK, HL1⟩ := hrel
        rename World => W18
        cases gk with
        | zero => exact absurd ((prufer_Read_L1_0 ..).symm.trans HL1.out) (by intro h; cases h)
        | succ g1 =>
          replace HL1 := Lib.hid ((prufer_Read_L1_s ..).symm.trans HL1.out)
          by_cases hc19 : j17 < ((v0).length : Int)
          · replace HL1 := Lib.hid (ifT hc19 HL1.out)
            have HK20 := Lib.hid hc19
            obtain ⟨y21, hy22, hm⟩ := obind HL1.out
            replace HL1 := Lib.hid hm; clear hm
            obtain ⟨b23, o24, ea25, _, f26, f27, f28⟩ := ReadsI.ix (rdI HD.out HR0.out) hy22
            cases ea25
            try simp only [Nat.zero_add, Nat.add_zero, Int.toNat_natCast, Int.toNat_zero, Int.toNat_one] at f28
            have HY30 := Lib.hid hy22; clear hy22
            have fb31 := HP.bx HOA.out (List.Mem.head _)
            obtain ⟨y32, hy33, hm⟩ := obind HL1.out
            replace HL1 := Lib.hid hm; clear hm
            obtain ⟨b34, o35, ea36, _, f37, f38, f39⟩ := ReadsI.ix (HP.rd_I HOA.out (List.Mem.tail _ (List.Mem.head _))) hy33
            cases ea36
            try simp only [Nat.zero_add, Nat.add_zero, Int.toNat_natCast, Int.toNat_zero, Int.toNat_one] at f39
            try rw [← HP.len_I HOA.out (List.Mem.tail _ (List.Mem.head _))] at f38
            have HY41 := Lib.hid hy33; clear hy33
            obtain ⟨y44, hy43, hm⟩ := obind HL1.out
            replace HL1 := Lib.hid hm; clear hm
            obtain ⟨f45, hy43⟩ := st_some hy43; subst hy43
            obtain ⟨g51, ea, f48, ⟨ux50, f49⟩, hp, hb⟩ := HP.setI (x := (wrap64 (y32 + 1))) (its1 := [_]) HOA.out f45
            cases ea
            obtain ⟨q0, q1⟩ := f45
            try rw [← HP.len_I HOA.out (List.Mem.tail _ (List.Mem.head _))] at q1
            clear f49
            have HP_ := Lib.hid hp; have HB_ := Lib.hid hb; clear hp hb
            replace HMK := Lib.hid (HMK.out.nc (ncOf HP_.out))
            go_wp2_with fail
            have hp := HP_.out; have hb := HB_.out; clear HP_ HB_
            generalize hW : World.setCell W18 _ _ = W42 at *
            clear hW
            try clear f48 q0 q1 hc19 f26 f27 f28 fb31 f37 f38 f39
            replace HOA := Lib.hid (show HP W42 w.heap.size [.fl (owX 23 (some ⟨(w.heap.size + 1), 0, none⟩) ((.slice (some ⟨w.heap.size, 0, none⟩) N12 N12))), .fl (owI (.slice (some ⟨w.heap.size, 0, none⟩) N12 N12) ((List.set x16 (Int.toNat y21) (wrap64 (y32 + 1)))))] from hp); clear hp
            replace HD := Lib.hid (HD.out.trans hb); clear hb
            go_wp2_with fail
            go_roundg g1
            case measure => omega
            case rel => exact ⟨(wrap64 (j17 + 1)), (List.set x16 (Int.toNat y21) (wrap64 (y32 + 1))), rfl, HD, HOA, HMK, HL1⟩
          · replace HL1 := Lib.hid (ifF hc19 HL1.out)
            have hc19d := decide_eq_false hc19
            have HK20 := Lib.hid hc19
            obtain rfl := Option.some.inj HL1.out
            have hm := HM.out; try dsimp only at hm
            replace HM := Lib.hid hm; clear hm
            obtain ⟨y55, hy56, hm⟩ := obind HM.out
            replace HM := Lib.hid hm; clear hm
            obtain ⟨f57, hy56⟩ := mkM_some hy56
            obtain ⟨N61, hN62⟩ : ∃ N, Int.toNat (wrap64 (((v0).length : Int) + 2)) = N := ⟨_, rfl⟩
            rw [hN62] at hy56; subst hy56
            have hmk58 := run_makeM f57; simp only [hN62] at hmk58
            have hd : Below W18.heap.size W18 (W18.alloc (.cells (Array.replicate N61 (Value.int .u64 0)) 48)) := (Below.refl _ _).alloc (Nat.le_refl _) _
            have ho := mkM_ok W18 f57; rw [hN62] at ho; clear hN62
            have ho2 := owX_ok (W18.alloc (.cells (Array.replicate N61 (Value.int .u64 0)) 48)) 45 (.slice (some ⟨W18.heap.size, 0, none⟩) N61 N61)
            have hd2 : Below (World.heap (W18.alloc (.cells (Array.replicate N61 (Value.int .u64 0)) 48))).size (W18.alloc (.cells (Array.replicate N61 (Value.int .u64 0)) 48)) (World.alloc (W18.alloc (.cells (Array.replicate N61 (Value.int .u64 0)) 48)) (.cells #[(.slice (some ⟨W18.heap.size, 0, none⟩) N61 N61)] 45)) := (Below.refl _ _).alloc (Nat.le_refl _) _
            have hoa := (HOA.out.call hd HD.out.size ho).call hd2 (Nat.le_trans HD.out.size hd.size) ho2
            replace hd := hd.trans (hd2.mono hd.size)
            simp only [World.size_alloc] at hoa
            clear ho ho2 hd2
            go_upto_region 13 with (fail)
            generalize hW : World.alloc (World.alloc W18 _) _ = W59 at *
            clear hW hmk58 f57
            try clear hc19 hc19d
            replace HOA := Lib.hid hoa; clear hoa
            replace HD := Lib.hid (HD.out.trans (hd.mono HD.out.size))
            replace HMK := Lib.hid (HMK.out.nc (NC.of_below hd))
            clear hd
            obtain ⟨y66, hy64, hm⟩ := obind HM.out
            replace HM := Lib.hid hm; clear hm
            have HC65 := sBelow_ok W59  hy64
            clear hy64
            replace HC65 := Lib.hid HC65
            go_wp2_with fail
            refine HC65.out.mono ?_; rintro e w' ⟨rfl, rfl⟩
            go_upto_region 14 with (fail)
            have hd : Below W59.heap.size W59 (W59.alloc (.cells #[.int .u64 (((y66) : Nat) : Int)] 48)) := (Below.refl _ _).alloc (Nat.le_refl _) _
            have ho := owX_ok W59 48 (.int .u64 (((y66) : Nat) : Int))
            generalize hW : World.alloc W59 _ = W67 at *
            clear hW
            replace HOA := Lib.hid (HOA.out.call hd HD.out.size ho); clear ho
            replace HD := Lib.hid (HD.out.trans (hd.mono HD.out.size))
            replace HMK := Lib.hid (HMK.out.nc (NC.of_below hd))
            clear hd
            go_wp2_with fail
            obtain ⟨o69, ho, hm⟩ := obind HM.out
            replace HM := Lib.hid hm; have HL2 := Lib.hid ho; clear hm ho
            refine wp_loop_marks _ [false, false, false, false, false, false, false, false, false, false, false, true, true, false, false, false, false, false, false, false, false, false, false, false, false, false, false, false, false, false, false, false, false, false, false, false, false, false, false, false, false, false, false, false, false, false, false, false, false, false, false, true, true, true, true, true, true, false, true, true, true, true, true, true, true, true, true, true, true, true, true, true, true, true, true, true, true, true, true, true, true, true, true, true, true, true, true, true, false, false, false, false, false, false, false, false, false, false, false, false, false, false, false, false, false, false, false, false, false, false, false, false, false, false, false, false, false, false, false, false, false, false, false] (fun gg fk2 dsk2 wr => ∃ (j73 : Int) (x70 : List Int) (x71 : List Nat) (x72 : Nat), (fk2 51) = .int .i64 j73 ∧ Hid (Below w.heap.size w wr) ∧ Hid (HP wr w.heap.size [.fl (owX 48 (some ⟨W59.heap.size, 0, none⟩) (.int .u64 (((x72) : Nat) : Int))), .fl (owX 45 (some ⟨(W18.heap.size + 1), 0, none⟩) ((.slice (some ⟨W18.heap.size, 0, none⟩) N61 N61))), .fl (owM (.slice (some ⟨W18.heap.size, 0, none⟩) N61 N61) (x71)), .fl (owX 23 (some ⟨(w.heap.size + 1), 0, none⟩) ((.slice (some ⟨w.heap.size, 0, none⟩) N12 N12))), .fl (owI (.slice (some ⟨w.heap.size, 0, none⟩) N12 N12) (x70))]) ∧ Hid (Marks w.heap.size dsk2 wr) ∧ Hid (prufer_Read_L2 F (v0) gg j73 x70 x71 x72 = some o69)) F _ (by simp only [agreeB, and_self, true_and]) ⟨0, x16, (List.replicate N61 0), y66, rfl, HD, HOA, HMK, HL2⟩ ?round
            case round =>
              intro gk fk2 dsk2 wr hrel _ _ hJ2 _
              obtain ⟨j73, x70, x71, x72, hf74, HD, HOA, HMK, HL2⟩ := hrel
              simp only [setB, Nat.reduceAdd, hf74]
              clear hf74
              rename World => W75
              cases gk with
              | zero => exact absurd ((prufer_Read_L2_0 ..).symm.trans HL2.out) (by intro h; cases h)
              | succ g2 =>
                replace HL2 := Lib.hid ((prufer_Read_L2_s ..).symm.trans HL2.out)
                by_cases hc76 : j73 < ((v0).length : Int)
                · replace HL2 := Lib.hid (ifT hc76 HL2.out)
                  have HK77 := Lib.hid hc76
                  obtain ⟨y78, hy79, hm⟩ := obind HL2.out
                  replace HL2 := Lib.hid hm; clear hm
                  obtain ⟨b80, o81, ea82, _, f83, f84, f85⟩ := ReadsI.ix (rdI HD.out HR0.out) hy79
                  cases ea82
                  try simp only [Nat.zero_add, Nat.add_zero, Int.toNat_natCast, Int.toNat_zero, Int.toNat_one] at f85
                  have HY87 := Lib.hid hy79; clear hy79
                  go_upto_region 17 with (fail)
                  have hd : Below W75.heap.size W75 (W75.alloc (.cells #[.int .i64 (y78)] 3)) := (Below.refl _ _).alloc (Nat.le_refl _) _
                  have ho := owX_ok W75 3 (.int .i64 (y78))
                  generalize hW : World.alloc W75 _ = W88 at *
                  clear hW
                  try clear hc76 f83 f84 f85
                  replace HOA := Lib.hid (HOA.out.call hd HD.out.size ho); clear ho
                  replace HD := Lib.hid (HD.out.trans (hd.mono HD.out.size))
                  replace HMK := Lib.hid (HMK.out.nc (NC.of_below hd))
                  clear hd
                  have fb90 := HP.bx HOA.out (List.Mem.tail _ (List.Mem.head _))
                  obtain ⟨y91, hy92, hm⟩ := obind HL2.out
                  replace HL2 := Lib.hid hm; clear hm
                  obtain ⟨hlt, hml⟩ := s_of hy92
                  have HLT94 := Lib.hid hlt; have HML95 := Lib.hid hml; clear hlt hml hy92
                  obtain ⟨o93, ho, hm⟩ := obind HL2.out
                  replace HL2 := Lib.hid hm; have HL3 := Lib.hid ho; clear hm ho
                  go_wp2_with fail
                  refine (each_any _ _).mono ?_; rintro e w' ⟨rfl, rfl⟩
                  go_wp2_with fail
                  try clear fb90
                  have hd : Below W88.heap.size W88 (W88.alloc (.cells #[.int .u64 (((x72) : Nat) : Int)] 48)) := (Below.refl _ _).alloc (Nat.le_refl _) _
                  have ho := owX_ok W88 48 (.int .u64 (((x72) : Nat) : Int))
                  generalize hW : World.alloc W88 _ = W96 at *
                  clear hW
                  replace HOA := Lib.hid (HOA.out.call hd HD.out.size ho); clear ho
                  replace HD := Lib.hid (HD.out.trans (hd.mono HD.out.size))
                  replace HMK := Lib.hid (HMK.out.nc (NC.of_below hd))
                  clear hd
                  have HDk101 := HD
                  refine (wpIn_wide (n := 5)).1 (wp_each2 (m := x72) (Bs := W88.heap.size) (by omega) HLT94.out rfl (HP.bx HOA.out (List.Mem.head _)) rfl (fun rest W => ∃ (x98 : List Int) (x99 : List Nat) (x100 : Nat), Hid (Below w.heap.size w W) ∧ Hid (NC W96 W) ∧ Hid (HP W w.heap.size [.fl (owX 48 (some ⟨W88.heap.size, 0, none⟩) (.int .u64 (((x72) : Nat) : Int))), .fl (owX 3 (some ⟨W75.heap.size, 0, none⟩) (.int .i64 (y78))), .fl (owX 48 (some ⟨W59.heap.size, 0, none⟩) (.int .u64 (((x100) : Nat) : Int))), .fl (owX 45 (some ⟨(W18.heap.size + 1), 0, none⟩) ((.slice (some ⟨W18.heap.size, 0, none⟩) N61 N61))), .fl (owM (.slice (some ⟨W18.heap.size, 0, none⟩) N61 N61) (x99)), .fl (owX 23 (some ⟨(w.heap.size + 1), 0, none⟩) ((.slice (some ⟨w.heap.size, 0, none⟩) N12 N12))), .fl (owI (.slice (some ⟨w.heap.size, 0, none⟩) N12 N12) (x98))]) ∧ Hid (prufer_Read_L3 F (y78) rest x98 x99 x100 = some o93)) (fun c W => c = Code.exit 4 ∧ ∃ (x98 : List Int) (x99 : List Nat) (x100 : Nat), Hid (Below w.heap.size w W) ∧ Hid (NC W96 W) ∧ Hid (HP W w.heap.size [.fl (owX 48 (some ⟨W88.heap.size, 0, none⟩) (.int .u64 (((x72) : Nat) : Int))), .fl (owX 3 (some ⟨W75.heap.size, 0, none⟩) (.int .i64 (y78))), .fl (owX 48 (some ⟨W59.heap.size, 0, none⟩) (.int .u64 (((x100) : Nat) : Int))), .fl (owX 45 (some ⟨(W18.heap.size + 1), 0, none⟩) ((.slice (some ⟨W18.heap.size, 0, none⟩) N61 N61))), .fl (owM (.slice (some ⟨W18.heap.size, 0, none⟩) N61 N61) (x99)), .fl (owX 23 (some ⟨(w.heap.size + 1), 0, none⟩) ((.slice (some ⟨w.heap.size, 0, none⟩) N12 N12))), .fl (owI (.slice (some ⟨w.heap.size, 0, none⟩) N12 N12) (x98))]) ∧ Hid ((x98, x99, x100) = o93)) ?hI_q294 ?hIx_q294 ⟨x70, x71, x72, HD, Lib.hid (NC.refl _), HOA, by rw [HML95.out]; exact HL3⟩ ?a1_q294 ?assign_q294 ?body_q294 ?done_q294 ?stop_q294)
                  case hI_q294 =>
                    rintro rest W W' ⟨x98, x99, x100, hd, hn, hh, hl⟩ hk
                    exact ⟨x98, x99, x100, Lib.hid (hk.below hd.out HDk101.out.size (Nat.le_refl _)), Lib.hid (hn.out.keepC hk (Nat.le_refl _)), Lib.hid (hh.out.keepC hk), hl⟩
                  case assign_q294 =>
                    intro l x W K hK
                    gi_wp2
                    exact hK
                  case body_q294 =>
                    rintro l102 xn103 rest W104 hx ⟨x98, x99, x100, HD, HN, HOA, HL3⟩ _ _ _ hJ106 hJx107 _ hQ105
                    replace HL3 := Lib.hid ((prufer_Read_L3_c ..).symm.trans HL3.out)
                    have HNB := Lib.hid (NC.refl W104)
                    have fb108 := HP.bx HOA.out (List.Mem.tail _ (List.Mem.tail _ (List.Mem.tail _ (List.Mem.tail _ (List.Mem.tail _ (List.Mem.head _))))))
                    obtain ⟨y109, hy110, hm⟩ := obind HL3.out
                    replace HL3 := Lib.hid hm; clear hm
                    obtain ⟨b111, o112, ea113, _, f114, f115, f116⟩ := ReadsI.ix (HP.rd_I HOA.out (List.Mem.tail _ (List.Mem.tail _ (List.Mem.tail _ (List.Mem.tail _ (List.Mem.tail _ (List.Mem.tail _ (List.Mem.head _)))))))) hy110
                    cases ea113
                    try simp only [Nat.zero_add, Nat.add_zero, Int.toNat_natCast, Int.toNat_zero, Int.toNat_one] at f116
                    try rw [← HP.len_I HOA.out (List.Mem.tail _ (List.Mem.tail _ (List.Mem.tail _ (List.Mem.tail _ (List.Mem.tail _ (List.Mem.tail _ (List.Mem.head _)))))))] at f115
                    have HY118 := Lib.hid hy110; clear hy110
                    rcases Bool.eq_false_or_eq_true (y109 == 0) with hc119 | hc119
                    · replace HL3 := Lib.hid (ifT hc119 HL3.out)
                      have HK120 := Lib.hid hc119
                      try gi_wp2_with fail
                      try clear fb108 f114 f115 f116 hc119
                      have fb121 := HP.bx HOA.out (List.Mem.tail _ (List.Mem.head _))
                      by_cases hc122 : y78 < (xn103 : Int)
                      · replace HL3 := Lib.hid (by have q := HL3.out; (try simp only [show gmin (xn103 : Int) y78 = y78 from if_pos hc122] at q); exact q)
                        have HK123 := Lib.hid hc122
                        have hc122x : y78 < (xn103 : Int) := by first | exact hc122 | (simp only [i64w]; exact hc122)
                        have hc122y : ¬ ((xn103 : Int) ≤ y78) := by first | exact Int.not_le.2 hc122 | (simp only [i64w]; exact Int.not_le.2 hc122)
                        have hc124 := HK123.out
                        replace HL3 := Lib.hid (by have q := HL3.out; (try simp only [show gmin (xn103 : Int) y78 = y78 from if_pos hc124] at q); exact q)
                        have HK125 := Lib.hid hc124
                        have hc124x : y78 < (xn103 : Int) := by first | exact hc124 | (simp only [i64w]; exact hc124)
                        have hc124y : ¬ ((xn103 : Int) ≤ y78) := by first | exact Int.not_le.2 hc124 | (simp only [i64w]; exact Int.not_le.2 hc124)
                        have fb126 := HP.bx HOA.out (List.Mem.tail _ (List.Mem.tail _ (List.Mem.tail _ (List.Mem.head _))))
                        obtain ⟨y127, hy128, hm⟩ := obind HL3.out
                        replace HL3 := Lib.hid hm; clear hm
                        obtain ⟨b129, o130, ea131, _, f132, f133, f134⟩ := ReadsM.ix (HP.rd_M HOA.out (List.Mem.tail _ (List.Mem.tail _ (List.Mem.tail _ (List.Mem.tail _ (List.Mem.head _)))))) hy128
                        cases ea131
                        try simp only [Nat.zero_add, Nat.add_zero, Int.toNat_natCast, Int.toNat_zero, Int.toNat_one] at f134
                        try rw [← HP.len_M HOA.out (List.Mem.tail _ (List.Mem.tail _ (List.Mem.tail _ (List.Mem.tail _ (List.Mem.head _)))))] at f133
                        have HY136 := Lib.hid hy128; clear hy128
                        have hc137 : ¬ ((xn103 : Int) < y78) := Int.not_lt.2 (Int.le_of_lt HK125.out)
                        replace HL3 := Lib.hid (by have q := HL3.out; (try simp only [show gmax (xn103 : Int) y78 = (xn103 : Int) from if_neg hc137] at q); exact q)
                        have HK138 := Lib.hid hc137
                        have hc137x : ¬ ((xn103 : Int) < y78) := by first | exact hc137 | (simp only [i64w]; exact hc137)
                        have hc137y : y78 ≤ (xn103 : Int) := by first | exact Int.not_lt.1 hc137 | (simp only [i64w]; exact Int.not_lt.1 hc137)
                        obtain ⟨y141, hy139, hm⟩ := obind HL3.out
                        replace HL3 := Lib.hid hm; clear hm
                        have HC140 := Lib.hid (fun m => sWith_ok (W104.drewN m)  hy139)
                        clear hy139
                        obtain ⟨y144, hy143, hm⟩ := obind HL3.out
                        replace HL3 := Lib.hid hm; clear hm
                        obtain ⟨f145, hy143⟩ := st_some hy143; subst hy143
                        obtain ⟨g151, ea, f148, ⟨ux150, f149⟩, hp, hb⟩ := HP.setM (x := y141) (its1 := [_, _, _, _]) HOA.out f145
                        cases ea
                        obtain ⟨q0, q1⟩ := f145
                        try rw [← HP.len_M HOA.out (List.Mem.tail _ (List.Mem.tail _ (List.Mem.tail _ (List.Mem.tail _ (List.Mem.head _)))))] at q1
                        clear f149
                        have HP_ := Lib.hid hp; have HB_ := Lib.hid hb; clear hp hb
                        replace HNB := Lib.hid (HNB.out.trans ((ncOf HP_.out).trans (NC.drew _)))
                        refine wpIn_region_still_tail (open_round l102) 15 (by kernel_rfl) (by kernel_rfl) (by kernel_rfl) ?_; simp only [List.take_succ_cons, List.take_zero, List.drop_succ_cons, List.drop_zero]; repeat still_step; try refine wpStill_nil ?_
                        still_call ((HC140.out 1).mono fun _ _ ⟨h1, h2⟩ => ⟨h1, h2.symm⟩)
                        repeat still_step
                        refine wpStill_nil ?_
                        change wpListIn _ _ _ _ _ _ _ (World.drew W104)
                        gi_upto_region 21 with (fail)
                        have hp := HP_.out.dr (Dr.one _); have hb := HB_.out.trans ((Dr.one _).below _); clear HP_ HB_
                        generalize hW : World.drew (World.setCell W104 _ _) = W142 at *
                        clear hW
                        try clear f148 q0 q1 fb121 hc122 hc122x hc122y hc124 hc124x hc124y fb126 f132 f133 f134 hc137 hc137x hc137y
                        replace HOA := Lib.hid (show HP W142 w.heap.size [.fl (owX 48 (some ⟨W88.heap.size, 0, none⟩) (.int .u64 (((x72) : Nat) : Int))), .fl (owX 3 (some ⟨W75.heap.size, 0, none⟩) (.int .i64 (y78))), .fl (owX 48 (some ⟨W59.heap.size, 0, none⟩) (.int .u64 (((x100) : Nat) : Int))), .fl (owX 45 (some ⟨(W18.heap.size + 1), 0, none⟩) ((.slice (some ⟨W18.heap.size, 0, none⟩) N61 N61))), .fl (owM (.slice (some ⟨W18.heap.size, 0, none⟩) N61 N61) ((List.set x99 (Int.toNat y78) y141))), .fl (owX 23 (some ⟨(w.heap.size + 1), 0, none⟩) ((.slice (some ⟨w.heap.size, 0, none⟩) N12 N12))), .fl (owI (.slice (some ⟨w.heap.size, 0, none⟩) N12 N12) (x98))] from hp); clear hp
                        replace HD := Lib.hid (HD.out.trans hb); clear hb
                        have fb155 := HP.bx HOA.out (List.Mem.tail _ (List.Mem.tail _ (List.Mem.head _)))
                        obtain ⟨y158, hy156, hm⟩ := obind HL3.out
                        replace HL3 := Lib.hid hm; clear hm
                        have HC157 := sWithout_ok W142  hy156
                        clear hy156
                        replace HC157 := Lib.hid HC157
                        gi_wp2_with fail
                        refine ⟨trivial, ?_⟩; refine (CallsIn.inRound l102 (callsIn_wide.2 HC157.out)).mono ?_; rintro e w' ⟨rfl, rfl⟩
                        obtain ⟨q0, q1, hp, hb⟩ := HP.setBx (its1 := [_, _]) HOA.out (.int .u64 (((y158) : Nat) : Int))
                        have HP_ := Lib.hid hp; have HB_ := Lib.hid hb; clear hp hb
                        gi_upto_region 22 with (fail)
                        have hp := HP_.out; have hb := HB_.out; clear HP_ HB_
                        replace HNB := Lib.hid (HNB.out.trans (NC.setCell W142 ⟨W59.heap.size, 0, none⟩ (.int .u64 (((y158) : Nat) : Int))))
                        generalize hW : World.setCell W142 _ _ = W159 at *
                        clear hW
                        try clear q0 q1 fb155
                        replace HOA := Lib.hid (show HP W159 w.heap.size [.fl (owX 48 (some ⟨W88.heap.size, 0, none⟩) (.int .u64 (((x72) : Nat) : Int))), .fl (owX 3 (some ⟨W75.heap.size, 0, none⟩) (.int .i64 (y78))), .fl (owX 48 (some ⟨W59.heap.size, 0, none⟩) (.int .u64 (((y158) : Nat) : Int))), .fl (owX 45 (some ⟨(W18.heap.size + 1), 0, none⟩) ((.slice (some ⟨W18.heap.size, 0, none⟩) N61 N61))), .fl (owM (.slice (some ⟨W18.heap.size, 0, none⟩) N61 N61) ((List.set x99 (Int.toNat y78) y141))), .fl (owX 23 (some ⟨(w.heap.size + 1), 0, none⟩) ((.slice (some ⟨w.heap.size, 0, none⟩) N12 N12))), .fl (owI (.slice (some ⟨w.heap.size, 0, none⟩) N12 N12) (x98))] from hp); clear hp
                        replace HD := Lib.hid (HD.out.trans hb); clear hb
                        have fb160 := HP.bx HOA.out (List.Mem.tail _ (List.Mem.head _))
                        have fb161 := HP.bx HOA.out (List.Mem.tail _ (List.Mem.tail _ (List.Mem.tail _ (List.Mem.tail _ (List.Mem.tail _ (List.Mem.head _))))))
                        obtain ⟨y162, hy163, hm⟩ := obind HL3.out
                        replace HL3 := Lib.hid hm; clear hm
                        obtain ⟨b164, o165, ea166, _, f167, f168, f169⟩ := ReadsI.ix (HP.rd_I HOA.out (List.Mem.tail _ (List.Mem.tail _ (List.Mem.tail _ (List.Mem.tail _ (List.Mem.tail _ (List.Mem.tail _ (List.Mem.head _)))))))) hy163
                        cases ea166
                        try simp only [Nat.zero_add, Nat.add_zero, Int.toNat_natCast, Int.toNat_zero, Int.toNat_one] at f169
                        try rw [← HP.len_I HOA.out (List.Mem.tail _ (List.Mem.tail _ (List.Mem.tail _ (List.Mem.tail _ (List.Mem.tail _ (List.Mem.tail _ (List.Mem.head _)))))))] at f168
                        have HY171 := Lib.hid hy163; clear hy163
                        obtain ⟨y174, hy173, hm⟩ := obind HL3.out
                        replace HL3 := Lib.hid hm; clear hm
                        obtain ⟨f175, hy173⟩ := st_some hy173; subst hy173
                        obtain ⟨g181, ea, f178, ⟨ux180, f179⟩, hp, hb⟩ := HP.setI (x := (wrap64 (y162 - 1))) (its1 := [_, _, _, _, _, _]) HOA.out f175
                        cases ea
                        obtain ⟨q0, q1⟩ := f175
                        try rw [← HP.len_I HOA.out (List.Mem.tail _ (List.Mem.tail _ (List.Mem.tail _ (List.Mem.tail _ (List.Mem.tail _ (List.Mem.tail _ (List.Mem.head _)))))))] at q1
                        clear f179
                        have HP_ := Lib.hid hp; have HB_ := Lib.hid hb; clear hp hb
                        replace HNB := Lib.hid (HNB.out.trans (ncOf HP_.out))
                        gi_wp2_with fail
                        have hp := HP_.out; have hb := HB_.out; clear HP_ HB_
                        generalize hW : World.setCell W159 _ _ = W172 at *
                        clear hW
                        try clear f178 q0 q1 fb160 fb161 f167 f168 f169
                        replace HOA := Lib.hid (show HP W172 w.heap.size [.fl (owX 48 (some ⟨W88.heap.size, 0, none⟩) (.int .u64 (((x72) : Nat) : Int))), .fl (owX 3 (some ⟨W75.heap.size, 0, none⟩) (.int .i64 (y78))), .fl (owX 48 (some ⟨W59.heap.size, 0, none⟩) (.int .u64 (((y158) : Nat) : Int))), .fl (owX 45 (some ⟨(W18.heap.size + 1), 0, none⟩) ((.slice (some ⟨W18.heap.size, 0, none⟩) N61 N61))), .fl (owM (.slice (some ⟨W18.heap.size, 0, none⟩) N61 N61) ((List.set x99 (Int.toNat y78) y141))), .fl (owX 23 (some ⟨(w.heap.size + 1), 0, none⟩) ((.slice (some ⟨w.heap.size, 0, none⟩) N12 N12))), .fl (owI (.slice (some ⟨w.heap.size, 0, none⟩) N12 N12) ((List.set x98 (Int.toNat y78) (wrap64 (y162 - 1)))))] from hp); clear hp
                        replace HD := Lib.hid (HD.out.trans hb); clear hb
                        gi_wp2_with fail
                        exact ⟨HNB.out, hJx107 _ _ ⟨rfl, (List.set x98 (Int.toNat y78) (wrap64 (y162 - 1))), (List.set x99 (Int.toNat y78) y141), y158, HD, Lib.hid (HN.out.trans HNB.out), HOA, Lib.hid (Option.some.inj HL3.out)⟩⟩
                      · replace HL3 := Lib.hid (by have q := HL3.out; (try simp only [show gmin (xn103 : Int) y78 = (xn103 : Int) from if_neg hc122] at q); exact q)
                        have HK123 := Lib.hid hc122
                        have hc122x : ¬ (y78 < (xn103 : Int)) := by first | exact hc122 | (simp only [i64w]; exact hc122)
                        have hc122y : (xn103 : Int) ≤ y78 := by first | exact Int.not_lt.1 hc122 | (simp only [i64w]; exact Int.not_lt.1 hc122)
                        have hc185 := HK123.out
                        replace HL3 := Lib.hid (by have q := HL3.out; (try simp only [show gmin (xn103 : Int) y78 = (xn103 : Int) from if_neg hc185] at q); exact q)
                        have HK186 := Lib.hid hc185
                        have hc185x : ¬ (y78 < (xn103 : Int)) := by first | exact hc185 | (simp only [i64w]; exact hc185)
                        have hc185y : (xn103 : Int) ≤ y78 := by first | exact Int.not_lt.1 hc185 | (simp only [i64w]; exact Int.not_lt.1 hc185)
                        have fb187 := HP.bx HOA.out (List.Mem.tail _ (List.Mem.tail _ (List.Mem.tail _ (List.Mem.head _))))
                        obtain ⟨y188, hy189, hm⟩ := obind HL3.out
                        replace HL3 := Lib.hid hm; clear hm
                        obtain ⟨b190, o191, ea192, _, f193, f194, f195⟩ := ReadsM.ix (HP.rd_M HOA.out (List.Mem.tail _ (List.Mem.tail _ (List.Mem.tail _ (List.Mem.tail _ (List.Mem.head _)))))) hy189
                        cases ea192
                        try simp only [Nat.zero_add, Nat.add_zero, Int.toNat_natCast, Int.toNat_zero, Int.toNat_one] at f195
                        try rw [← HP.len_M HOA.out (List.Mem.tail _ (List.Mem.tail _ (List.Mem.tail _ (List.Mem.tail _ (List.Mem.head _)))))] at f194
                        have HY197 := Lib.hid hy189; clear hy189
                        by_cases hc198 : (xn103 : Int) < y78
                        · replace HL3 := Lib.hid (by have q := HL3.out; (try simp only [show gmax (xn103 : Int) y78 = y78 from if_pos hc198] at q); exact q)
                          have HK199 := Lib.hid hc198
                          have hc198x : (xn103 : Int) < y78 := by first | exact hc198 | (simp only [i64w]; exact hc198)
                          have hc198y : ¬ (y78 ≤ (xn103 : Int)) := by first | exact Int.not_le.2 hc198 | (simp only [i64w]; exact Int.not_le.2 hc198)
                          obtain ⟨y202, hy200, hm⟩ := obind HL3.out
                          replace HL3 := Lib.hid hm; clear hm
                          have HC201 := Lib.hid (fun m => sWith_ok (W104.drewN m)  hy200)
                          clear hy200
                          obtain ⟨y205, hy204, hm⟩ := obind HL3.out
                          replace HL3 := Lib.hid hm; clear hm
                          obtain ⟨f206, hy204⟩ := st_some hy204; subst hy204
                          obtain ⟨g212, ea, f209, ⟨ux211, f210⟩, hp, hb⟩ := HP.setM (x := y202) (its1 := [_, _, _, _]) HOA.out f206
                          cases ea
                          obtain ⟨q0, q1⟩ := f206
                          try rw [← HP.len_M HOA.out (List.Mem.tail _ (List.Mem.tail _ (List.Mem.tail _ (List.Mem.tail _ (List.Mem.head _)))))] at q1
                          try simp only [Int.toNat_natCast] at f209 f210 hp hb
                          clear f210
                          have HP_ := Lib.hid hp; have HB_ := Lib.hid hb; clear hp hb
                          replace HNB := Lib.hid (HNB.out.trans ((ncOf HP_.out).trans (NC.drew _)))
                          refine wpIn_region_still_tail (open_round l102) 15 (by kernel_rfl) (by kernel_rfl) (by kernel_rfl) ?_; simp only [List.take_succ_cons, List.take_zero, List.drop_succ_cons, List.drop_zero]; repeat still_step; try refine wpStill_nil ?_
                          still_call ((HC201.out 1).mono fun _ _ ⟨h1, h2⟩ => ⟨h1, h2.symm⟩)
                          repeat still_step
                          refine wpStill_nil ?_
                          change wpListIn _ _ _ _ _ _ _ (World.drew W104)
                          gi_upto_region 21 with (fail)
                          have hp := HP_.out.dr (Dr.one _); have hb := HB_.out.trans ((Dr.one _).below _); clear HP_ HB_
                          generalize hW : World.drew (World.setCell W104 _ _) = W203 at *
                          clear hW
                          try clear f209 q0 q1 fb121 hc122 hc122x hc122y hc185 hc185x hc185y fb187 f193 f194 f195 hc198 hc198x hc198y
                          replace HOA := Lib.hid (show HP W203 w.heap.size [.fl (owX 48 (some ⟨W88.heap.size, 0, none⟩) (.int .u64 (((x72) : Nat) : Int))), .fl (owX 3 (some ⟨W75.heap.size, 0, none⟩) (.int .i64 (y78))), .fl (owX 48 (some ⟨W59.heap.size, 0, none⟩) (.int .u64 (((x100) : Nat) : Int))), .fl (owX 45 (some ⟨(W18.heap.size + 1), 0, none⟩) ((.slice (some ⟨W18.heap.size, 0, none⟩) N61 N61))), .fl (owM (.slice (some ⟨W18.heap.size, 0, none⟩) N61 N61) ((List.set x99 (Int.toNat (xn103 : Int)) y202))), .fl (owX 23 (some ⟨(w.heap.size + 1), 0, none⟩) ((.slice (some ⟨w.heap.size, 0, none⟩) N12 N12))), .fl (owI (.slice (some ⟨w.heap.size, 0, none⟩) N12 N12) (x98))] from hp); clear hp
                          replace HD := Lib.hid (HD.out.trans hb); clear hb
                          have fb216 := HP.bx HOA.out (List.Mem.tail _ (List.Mem.tail _ (List.Mem.head _)))
                          obtain ⟨y219, hy217, hm⟩ := obind HL3.out
                          replace HL3 := Lib.hid hm; clear hm
                          have HC218 := sWithout_ok W203  hy217
                          clear hy217
                          replace HC218 := Lib.hid HC218
                          gi_wp2_with fail
                          refine ⟨trivial, ?_⟩; refine (CallsIn.inRound l102 (callsIn_wide.2 HC218.out)).mono ?_; rintro e w' ⟨rfl, rfl⟩
                          obtain ⟨q0, q1, hp, hb⟩ := HP.setBx (its1 := [_, _]) HOA.out (.int .u64 (((y219) : Nat) : Int))
                          have HP_ := Lib.hid hp; have HB_ := Lib.hid hb; clear hp hb
                          gi_upto_region 22 with (fail)
                          have hp := HP_.out; have hb := HB_.out; clear HP_ HB_
                          replace HNB := Lib.hid (HNB.out.trans (NC.setCell W203 ⟨W59.heap.size, 0, none⟩ (.int .u64 (((y219) : Nat) : Int))))
                          generalize hW : World.setCell W203 _ _ = W220 at *
                          clear hW
                          try clear q0 q1 fb216
                          replace HOA := Lib.hid (show HP W220 w.heap.size [.fl (owX 48 (some ⟨W88.heap.size, 0, none⟩) (.int .u64 (((x72) : Nat) : Int))), .fl (owX 3 (some ⟨W75.heap.size, 0, none⟩) (.int .i64 (y78))), .fl (owX 48 (some ⟨W59.heap.size, 0, none⟩) (.int .u64 (((y219) : Nat) : Int))), .fl (owX 45 (some ⟨(W18.heap.size + 1), 0, none⟩) ((.slice (some ⟨W18.heap.size, 0, none⟩) N61 N61))), .fl (owM (.slice (some ⟨W18.heap.size, 0, none⟩) N61 N61) ((List.set x99 (Int.toNat (xn103 : Int)) y202))), .fl (owX 23 (some ⟨(w.heap.size + 1), 0, none⟩) ((.slice (some ⟨w.heap.size, 0, none⟩) N12 N12))), .fl (owI (.slice (some ⟨w.heap.size, 0, none⟩) N12 N12) (x98))] from hp); clear hp
                          replace HD := Lib.hid (HD.out.trans hb); clear hb
                          have fb221 := HP.bx HOA.out (List.Mem.tail _ (List.Mem.head _))
                          have fb222 := HP.bx HOA.out (List.Mem.tail _ (List.Mem.tail _ (List.Mem.tail _ (List.Mem.tail _ (List.Mem.tail _ (List.Mem.head _))))))
                          obtain ⟨y223, hy224, hm⟩ := obind HL3.out
                          replace HL3 := Lib.hid hm; clear hm
                          obtain ⟨b225, o226, ea227, _, f228, f229, f230⟩ := ReadsI.ix (HP.rd_I HOA.out (List.Mem.tail _ (List.Mem.tail _ (List.Mem.tail _ (List.Mem.tail _ (List.Mem.tail _ (List.Mem.tail _ (List.Mem.head _)))))))) hy224
                          cases ea227
                          try simp only [Nat.zero_add, Nat.add_zero, Int.toNat_natCast, Int.toNat_zero, Int.toNat_one] at f230
                          try rw [← HP.len_I HOA.out (List.Mem.tail _ (List.Mem.tail _ (List.Mem.tail _ (List.Mem.tail _ (List.Mem.tail _ (List.Mem.tail _ (List.Mem.head _)))))))] at f229
                          have HY232 := Lib.hid hy224; clear hy224
                          obtain ⟨y235, hy234, hm⟩ := obind HL3.out
                          replace HL3 := Lib.hid hm; clear hm
                          obtain ⟨f236, hy234⟩ := st_some hy234; subst hy234
                          obtain ⟨g242, ea, f239, ⟨ux241, f240⟩, hp, hb⟩ := HP.setI (x := (wrap64 (y223 - 1))) (its1 := [_, _, _, _, _, _]) HOA.out f236
                          cases ea
                          obtain ⟨q0, q1⟩ := f236
                          try rw [← HP.len_I HOA.out (List.Mem.tail _ (List.Mem.tail _ (List.Mem.tail _ (List.Mem.tail _ (List.Mem.tail _ (List.Mem.tail _ (List.Mem.head _)))))))] at q1
                          clear f240
                          have HP_ := Lib.hid hp; have HB_ := Lib.hid hb; clear hp hb
                          replace HNB := Lib.hid (HNB.out.trans (ncOf HP_.out))
                          gi_wp2_with fail
                          have hp := HP_.out; have hb := HB_.out; clear HP_ HB_
                          generalize hW : World.setCell W220 _ _ = W233 at *
                          clear hW
                          try clear f239 q0 q1 fb221 fb222 f228 f229 f230
                          replace HOA := Lib.hid (show HP W233 w.heap.size [.fl (owX 48 (some ⟨W88.heap.size, 0, none⟩) (.int .u64 (((x72) : Nat) : Int))), .fl (owX 3 (some ⟨W75.heap.size, 0, none⟩) (.int .i64 (y78))), .fl (owX 48 (some ⟨W59.heap.size, 0, none⟩) (.int .u64 (((y219) : Nat) : Int))), .fl (owX 45 (some ⟨(W18.heap.size + 1), 0, none⟩) ((.slice (some ⟨W18.heap.size, 0, none⟩) N61 N61))), .fl (owM (.slice (some ⟨W18.heap.size, 0, none⟩) N61 N61) ((List.set x99 (Int.toNat (xn103 : Int)) y202))), .fl (owX 23 (some ⟨(w.heap.size + 1), 0, none⟩) ((.slice (some ⟨w.heap.size, 0, none⟩) N12 N12))), .fl (owI (.slice (some ⟨w.heap.size, 0, none⟩) N12 N12) ((List.set x98 (Int.toNat y78) (wrap64 (y223 - 1)))))] from hp); clear hp
                          replace HD := Lib.hid (HD.out.trans hb); clear hb
                          gi_wp2_with fail
                          exact ⟨HNB.out, hJx107 _ _ ⟨rfl, (List.set x98 (Int.toNat y78) (wrap64 (y223 - 1))), (List.set x99 (Int.toNat (xn103 : Int)) y202), y219, HD, Lib.hid (HN.out.trans HNB.out), HOA, Lib.hid (Option.some.inj HL3.out)⟩⟩
                        · replace HL3 := Lib.hid (by have q := HL3.out; (try simp only [show gmax (xn103 : Int) y78 = (xn103 : Int) from if_neg hc198] at q); exact q)
                          have HK199 := Lib.hid hc198
                          have hc198x : ¬ ((xn103 : Int) < y78) := by first | exact hc198 | (simp only [i64w]; exact hc198)
                          have hc198y : y78 ≤ (xn103 : Int) := by first | exact Int.not_lt.1 hc198 | (simp only [i64w]; exact Int.not_lt.1 hc198)
                          obtain ⟨y248, hy246, hm⟩ := obind HL3.out
                          replace HL3 := Lib.hid hm; clear hm
                          have HC247 := Lib.hid (fun m => sWith_ok (W104.drewN m)  hy246)
                          clear hy246
                          obtain ⟨y251, hy250, hm⟩ := obind HL3.out
                          replace HL3 := Lib.hid hm; clear hm
                          obtain ⟨f252, hy250⟩ := st_some hy250; subst hy250
                          obtain ⟨g258, ea, f255, ⟨ux257, f256⟩, hp, hb⟩ := HP.setM (x := y248) (its1 := [_, _, _, _]) HOA.out f252
                          cases ea
                          obtain ⟨q0, q1⟩ := f252
                          try rw [← HP.len_M HOA.out (List.Mem.tail _ (List.Mem.tail _ (List.Mem.tail _ (List.Mem.tail _ (List.Mem.head _)))))] at q1
                          try simp only [Int.toNat_natCast] at f255 f256 hp hb
                          clear f256
                          have HP_ := Lib.hid hp; have HB_ := Lib.hid hb; clear hp hb
                          replace HNB := Lib.hid (HNB.out.trans ((ncOf HP_.out).trans (NC.drew _)))
                          refine wpIn_region_still_tail (open_round l102) 15 (by kernel_rfl) (by kernel_rfl) (by kernel_rfl) ?_; simp only [List.take_succ_cons, List.take_zero, List.drop_succ_cons, List.drop_zero]; repeat still_step; try refine wpStill_nil ?_
                          still_call ((HC247.out 1).mono fun _ _ ⟨h1, h2⟩ => ⟨h1, h2.symm⟩)
                          repeat still_step
                          refine wpStill_nil ?_
                          change wpListIn _ _ _ _ _ _ _ (World.drew W104)
                          gi_upto_region 21 with (fail)
                          have hp := HP_.out.dr (Dr.one _); have hb := HB_.out.trans ((Dr.one _).below _); clear HP_ HB_
                          generalize hW : World.drew (World.setCell W104 _ _) = W249 at *
                          clear hW
                          try clear f255 q0 q1 fb121 hc122 hc122x hc122y hc185 hc185x hc185y fb187 f193 f194 f195 hc198 hc198x hc198y
                          replace HOA := Lib.hid (show HP W249 w.heap.size [.fl (owX 48 (some ⟨W88.heap.size, 0, none⟩) (.int .u64 (((x72) : Nat) : Int))), .fl (owX 3 (some ⟨W75.heap.size, 0, none⟩) (.int .i64 (y78))), .fl (owX 48 (some ⟨W59.heap.size, 0, none⟩) (.int .u64 (((x100) : Nat) : Int))), .fl (owX 45 (some ⟨(W18.heap.size + 1), 0, none⟩) ((.slice (some ⟨W18.heap.size, 0, none⟩) N61 N61))), .fl (owM (.slice (some ⟨W18.heap.size, 0, none⟩) N61 N61) ((List.set x99 (Int.toNat (xn103 : Int)) y248))), .fl (owX 23 (some ⟨(w.heap.size + 1), 0, none⟩) ((.slice (some ⟨w.heap.size, 0, none⟩) N12 N12))), .fl (owI (.slice (some ⟨w.heap.size, 0, none⟩) N12 N12) (x98))] from hp); clear hp
                          replace HD := Lib.hid (HD.out.trans hb); clear hb
                          have fb262 := HP.bx HOA.out (List.Mem.tail _ (List.Mem.tail _ (List.Mem.head _)))
                          obtain ⟨y265, hy263, hm⟩ := obind HL3.out
                          replace HL3 := Lib.hid hm; clear hm
                          have HC264 := sWithout_ok W249  hy263
                          clear hy263
                          replace HC264 := Lib.hid HC264
                          gi_wp2_with fail
                          refine ⟨trivial, ?_⟩; refine (CallsIn.inRound l102 (callsIn_wide.2 HC264.out)).mono ?_; rintro e w' ⟨rfl, rfl⟩
                          obtain ⟨q0, q1, hp, hb⟩ := HP.setBx (its1 := [_, _]) HOA.out (.int .u64 (((y265) : Nat) : Int))
                          have HP_ := Lib.hid hp; have HB_ := Lib.hid hb; clear hp hb
                          gi_upto_region 22 with (fail)
                          have hp := HP_.out; have hb := HB_.out; clear HP_ HB_
                          replace HNB := Lib.hid (HNB.out.trans (NC.setCell W249 ⟨W59.heap.size, 0, none⟩ (.int .u64 (((y265) : Nat) : Int))))
                          generalize hW : World.setCell W249 _ _ = W266 at *
                          clear hW
                          try clear q0 q1 fb262
                          replace HOA := Lib.hid (show HP W266 w.heap.size [.fl (owX 48 (some ⟨W88.heap.size, 0, none⟩) (.int .u64 (((x72) : Nat) : Int))), .fl (owX 3 (some ⟨W75.heap.size, 0, none⟩) (.int .i64 (y78))), .fl (owX 48 (some ⟨W59.heap.size, 0, none⟩) (.int .u64 (((y265) : Nat) : Int))), .fl (owX 45 (some ⟨(W18.heap.size + 1), 0, none⟩) ((.slice (some ⟨W18.heap.size, 0, none⟩) N61 N61))), .fl (owM (.slice (some ⟨W18.heap.size, 0, none⟩) N61 N61) ((List.set x99 (Int.toNat (xn103 : Int)) y248))), .fl (owX 23 (some ⟨(w.heap.size + 1), 0, none⟩) ((.slice (some ⟨w.heap.size, 0, none⟩) N12 N12))), .fl (owI (.slice (some ⟨w.heap.size, 0, none⟩) N12 N12) (x98))] from hp); clear hp
                          replace HD := Lib.hid (HD.out.trans hb); clear hb
                          have fb267 := HP.bx HOA.out (List.Mem.tail _ (List.Mem.head _))
                          have fb268 := HP.bx HOA.out (List.Mem.tail _ (List.Mem.tail _ (List.Mem.tail _ (List.Mem.tail _ (List.Mem.tail _ (List.Mem.head _))))))
                          obtain ⟨y269, hy270, hm⟩ := obind HL3.out
                          replace HL3 := Lib.hid hm; clear hm
                          obtain ⟨b271, o272, ea273, _, f274, f275, f276⟩ := ReadsI.ix (HP.rd_I HOA.out (List.Mem.tail _ (List.Mem.tail _ (List.Mem.tail _ (List.Mem.tail _ (List.Mem.tail _ (List.Mem.tail _ (List.Mem.head _)))))))) hy270
                          cases ea273
                          try simp only [Nat.zero_add, Nat.add_zero, Int.toNat_natCast, Int.toNat_zero, Int.toNat_one] at f276
                          try rw [← HP.len_I HOA.out (List.Mem.tail _ (List.Mem.tail _ (List.Mem.tail _ (List.Mem.tail _ (List.Mem.tail _ (List.Mem.tail _ (List.Mem.head _)))))))] at f275
                          have HY278 := Lib.hid hy270; clear hy270
                          obtain ⟨y281, hy280, hm⟩ := obind HL3.out
                          replace HL3 := Lib.hid hm; clear hm
                          obtain ⟨f282, hy280⟩ := st_some hy280; subst hy280
                          obtain ⟨g288, ea, f285, ⟨ux287, f286⟩, hp, hb⟩ := HP.setI (x := (wrap64 (y269 - 1))) (its1 := [_, _, _, _, _, _]) HOA.out f282
                          cases ea
                          obtain ⟨q0, q1⟩ := f282
                          try rw [← HP.len_I HOA.out (List.Mem.tail _ (List.Mem.tail _ (List.Mem.tail _ (List.Mem.tail _ (List.Mem.tail _ (List.Mem.tail _ (List.Mem.head _)))))))] at q1
                          clear f286
                          have HP_ := Lib.hid hp; have HB_ := Lib.hid hb; clear hp hb
                          replace HNB := Lib.hid (HNB.out.trans (ncOf HP_.out))
                          gi_wp2_with fail
                          have hp := HP_.out; have hb := HB_.out; clear HP_ HB_
                          generalize hW : World.setCell W266 _ _ = W279 at *
                          clear hW
                          try clear f285 q0 q1 fb267 fb268 f274 f275 f276
                          replace HOA := Lib.hid (show HP W279 w.heap.size [.fl (owX 48 (some ⟨W88.heap.size, 0, none⟩) (.int .u64 (((x72) : Nat) : Int))), .fl (owX 3 (some ⟨W75.heap.size, 0, none⟩) (.int .i64 (y78))), .fl (owX 48 (some ⟨W59.heap.size, 0, none⟩) (.int .u64 (((y265) : Nat) : Int))), .fl (owX 45 (some ⟨(W18.heap.size + 1), 0, none⟩) ((.slice (some ⟨W18.heap.size, 0, none⟩) N61 N61))), .fl (owM (.slice (some ⟨W18.heap.size, 0, none⟩) N61 N61) ((List.set x99 (Int.toNat (xn103 : Int)) y248))), .fl (owX 23 (some ⟨(w.heap.size + 1), 0, none⟩) ((.slice (some ⟨w.heap.size, 0, none⟩) N12 N12))), .fl (owI (.slice (some ⟨w.heap.size, 0, none⟩) N12 N12) ((List.set x98 (Int.toNat y78) (wrap64 (y269 - 1)))))] from hp); clear hp
                          replace HD := Lib.hid (HD.out.trans hb); clear hb
                          gi_wp2_with fail
                          exact ⟨HNB.out, hJx107 _ _ ⟨rfl, (List.set x98 (Int.toNat y78) (wrap64 (y269 - 1))), (List.set x99 (Int.toNat (xn103 : Int)) y248), y265, HD, Lib.hid (HN.out.trans HNB.out), HOA, Lib.hid (Option.some.inj HL3.out)⟩⟩
                    · replace HL3 := Lib.hid (ifF (bF hc119) HL3.out)
                      have HK120 := Lib.hid hc119
                      gi_wp2_with fail
                      try clear fb108 f114 f115 f116 hc119
                      exact ⟨HNB.out, HP.bx HOA.out (List.Mem.head _), hJ106 _ ⟨x98, x99, x100, HD, Lib.hid (HN.out.trans HNB.out), HOA, HL3⟩⟩
                  case hIx_q294 =>
                    rintro c W W' ⟨hc, x98, x99, x100, hd, hn, hh, hl⟩ hk
                    exact ⟨hc, x98, x99, x100, Lib.hid (hk.below hd.out HDk101.out.size (Nat.le_refl _)), Lib.hid (hn.out.keepC hk (Nat.le_refl _)), Lib.hid (hh.out.keepC hk), hl⟩
                  case done_q294 =>
                    rintro D292 W293 hD ⟨x98, x99, x100, HD, HN, HOA, HL3⟩ hK
                    have hov := Option.some.inj ((prufer_Read_L3_n ..).symm.trans HL3.out)
                    replace HMK := Lib.hid (HMK.out.push HN.out hD HDk101.out.size hK); clear hK hD HN
                    subst hov
                    have hm := HL2.out; try dsimp only at hm
                    replace HL2 := Lib.hid hm; clear hm
                    go_wp2_with fail
                    replace HOA := Lib.hid (HOA.out.sub (.cons _ (.cons _ (.cons₂ _ (.cons₂ _ (.cons₂ _ (.cons₂ _ (.cons₂ _ .slnil))))))))
                    refine Handed.intro g2 (by omega) ?_
                    refine hJ2 _ _ _ ⟨by simp only [agreeB, and_self, true_and], (wrap64 (j73 + 1)), x98, x99, x100, rfl, HD, HOA, HMK, HL2⟩
                  case stop_q294 =>
                    rintro D292 c W293 hD ⟨rfl, x98, x99, x100, HD, HN, HOA, hov⟩ hK
                    refine wpIn_wide.2 ?_
                    replace hov := hov.out
                    replace HMK := Lib.hid (HMK.out.push HN.out hD HDk101.out.size hK); clear hK hD HN
                    subst hov
                    have hm := HL2.out; try dsimp only at hm
                    replace HL2 := Lib.hid hm; clear hm
                    go_wp2_with fail
                    replace HOA := Lib.hid (HOA.out.sub (.cons _ (.cons _ (.cons₂ _ (.cons₂ _ (.cons₂ _ (.cons₂ _ (.cons₂ _ .slnil))))))))
                    refine Handed.intro g2 (by omega) ?_
                    refine hJ2 _ _ _ ⟨by simp only [agreeB, and_self, true_and], (wrap64 (j73 + 1)), x98, x99, x100, rfl, HD, HOA, HMK, HL2⟩
                · replace HL2 := Lib.hid (ifF hc76 HL2.out)
                  have hc76d := decide_eq_false hc76
                  have HK77 := Lib.hid hc76
                  obtain rfl := Option.some.inj HL2.out
                  have hm := HM.out; try dsimp only at hm
                  replace HM := Lib.hid hm; clear hm
                  have fb295 := HP.bx HOA.out (List.Mem.head _)
                  obtain ⟨y298, hy296, hm⟩ := obind HM.out
                  replace HM := Lib.hid hm; clear hm
                  have HC297 := sList_ok W75  hy296
                  clear hy296
                  replace HC297 := Lib.hid HC297
                  go_wp2_with fail
                  refine HC297.out.mono ?_; rintro e W299 ⟨V300, rfl, ho, hd⟩
                  try clear hc76 hc76d fb295
                  replace HOA := Lib.hid (HOA.out.call hd HD.out.size ho); clear ho
                  replace HD := Lib.hid (HD.out.trans (hd.mono HD.out.size))
                  replace HMK := Lib.hid (HMK.out.nc (NC.of_below hd))
                  clear hd
                  try go_wp2_with fail
                  obtain ⟨A304, cap305, he, _⟩ := HP.open_I HOA.out (List.Mem.head _)
                  subst he
                  obtain ⟨y302, hy303, hm⟩ := obind HM.out
                  replace HM := Lib.hid hm; clear hm
                  obtain ⟨b306, o307, ea308, _, f309, f310, f311⟩ := ReadsI.ix (HP.rd_I HOA.out (List.Mem.head _)) hy303
                  cases ea308
                  try simp only [Nat.zero_add, Nat.add_zero, Int.toNat_natCast, Int.toNat_zero, Int.toNat_one] at f311
                  have f310n := f310; try norm_cast at f310n
                  try rw [← HP.len_I HOA.out (List.Mem.head _)] at f310
                  have HY313 := Lib.hid hy303; clear hy303
                  obtain ⟨y314, hy315, hm⟩ := obind HM.out
                  replace HM := Lib.hid hm; clear hm
                  obtain rfl := Option.some.inj (HY313.out.symm.trans hy315)
                  clear hy315
                  have fb316 := HP.bx HOA.out (List.Mem.tail _ (List.Mem.tail _ (List.Mem.head _)))
                  obtain ⟨y317, hy318, hm⟩ := obind HM.out
                  replace HM := Lib.hid hm; clear hm
                  obtain ⟨b319, o320, ea321, _, f322, f323, f324⟩ := ReadsM.ix (HP.rd_M HOA.out (List.Mem.tail _ (List.Mem.tail _ (List.Mem.tail _ (List.Mem.head _))))) hy318
                  cases ea321
                  try simp only [Nat.zero_add, Nat.add_zero, Int.toNat_natCast, Int.toNat_zero, Int.toNat_one] at f324
                  try rw [← HP.len_M HOA.out (List.Mem.tail _ (List.Mem.tail _ (List.Mem.tail _ (List.Mem.head _))))] at f323
                  have HY326 := Lib.hid hy318; clear hy318
                  obtain ⟨y327, hy328, hm⟩ := obind HM.out
                  replace HM := Lib.hid hm; clear hm
                  obtain ⟨b329, o330, ea331, _, f332, f333, f334⟩ := ReadsI.ix (HP.rd_I HOA.out (List.Mem.head _)) hy328
                  cases ea331
                  try simp only [Nat.zero_add, Nat.add_zero, Int.toNat_natCast, Int.toNat_zero, Int.toNat_one] at f334
                  have f333n := f333; try norm_cast at f333n
                  try rw [← HP.len_I HOA.out (List.Mem.head _)] at f333
                  have HY336 := Lib.hid hy328; clear hy328
                  obtain ⟨y339, hy337, hm⟩ := obind HM.out
                  replace HM := Lib.hid hm; clear hm
                  have HC338 := Lib.hid (fun m => sWith_ok (W299.drewN m)  hy337)
                  clear hy337
                  obtain ⟨y342, hy341, hm⟩ := obind HM.out
                  replace HM := Lib.hid hm; clear hm
                  obtain ⟨f343, hy341⟩ := st_some hy341; subst hy341
                  obtain ⟨g349, ea, f346, ⟨ux348, f347⟩, hp, hb⟩ := HP.setM (x := y339) (its1 := [_, _, _]) HOA.out f343
                  cases ea
                  obtain ⟨q0, q1⟩ := f343
                  try rw [← HP.len_M HOA.out (List.Mem.tail _ (List.Mem.tail _ (List.Mem.tail _ (List.Mem.head _))))] at q1
                  clear f347
                  have HP_ := Lib.hid hp; have HB_ := Lib.hid hb; clear hp hb
                  replace HMK := Lib.hid (HMK.out.nc ((ncOf HP_.out).trans (NC.drew _)))
                  go_still_tail 15, (by kernel_rfl)
                  still_call ((HC338.out 1).mono fun _ _ ⟨h1, h2⟩ => ⟨h1, h2.symm⟩)
                  repeat still_step
                  refine wpStill_nil ?_
                  change wpList _ _ _ _ _ (World.drew W299)
                  go_upto_region 26 with (fail)
                  have hp := HP_.out.dr (Dr.one _); have hb := HB_.out.trans ((Dr.one _).below _); clear HP_ HB_
                  generalize hW : World.drew (World.setCell W299 _ _) = W340 at *
                  clear hW
                  try clear f346 q0 q1 f309 f310 f311 f310n fb316 f322 f323 f324 f332 f333 f334 f333n
                  replace HOA := Lib.hid (show HP W340 w.heap.size [.fl (owI (.slice (some ⟨b306, o307, none⟩) (y298).length cap305) (y298)), .fl (owX 48 (some ⟨W59.heap.size, 0, none⟩) (.int .u64 (((x72) : Nat) : Int))), .fl (owX 45 (some ⟨(W18.heap.size + 1), 0, none⟩) ((.slice (some ⟨W18.heap.size, 0, none⟩) N61 N61))), .fl (owM (.slice (some ⟨W18.heap.size, 0, none⟩) N61 N61) ((List.set x71 (Int.toNat y302) y339))), .fl (owX 23 (some ⟨(w.heap.size + 1), 0, none⟩) ((.slice (some ⟨w.heap.size, 0, none⟩) N12 N12))), .fl (owI (.slice (some ⟨w.heap.size, 0, none⟩) N12 N12) (x70))] from hp); clear hp
                  replace HD := Lib.hid (HD.out.trans hb); clear hb
                  replace HOA := Lib.hid (show HP _ _ (.fl (owL (.slice none 0 0) ([])) :: _) from HOA.out.pushNil _ _)
                  go_upto_region 27 with (fail)
                  have hd : Below W340.heap.size W340 (W340.alloc (.cells #[(.slice none 0 0)] 22)) := (Below.refl _ _).alloc (Nat.le_refl _) _
                  have ho := owX_ok W340 22 ((.slice none 0 0))
                  generalize hW : World.alloc W340 _ = W354 at *
                  clear hW
                  replace HOA := Lib.hid (HOA.out.call hd HD.out.size ho); clear ho
                  replace HD := Lib.hid (HD.out.trans (hd.mono HD.out.size))
                  replace HMK := Lib.hid (HMK.out.nc (NC.of_below hd))
                  clear hd
                  have fb356 := HP.bx HOA.out (List.Mem.tail _ (List.Mem.tail _ (List.Mem.tail _ (List.Mem.tail _ (List.Mem.head _)))))
                  go_wp2_with fail
                  try clear fb356
                  obtain ⟨o357, ho, hm⟩ := obind HM.out
                  replace HM := Lib.hid hm; have HL4 := Lib.hid ho; clear hm ho
                  refine wp_loop_marks _ [false, false, false, false, false, false, false, false, false, false, false, false, false, false, false, true, true, true, false, false, false, false, false, false, false, false, false, false, false, false, false, false, false, false, false, false, false, false, false, false, false, false, false, false, false, false, false, false, false, false, false, false, false, false, false, false, false, false, false, false, false, false, false, false, false, false, false, false, false, false, false, false, false, false, false, false, false, false, false, false, false, false, false, false, false, false, false, false, false, false, false, false, false, false, false, false, false, false, false, false, false, false, false, false, false, false, false, true, true, true, true, true, true, true, false, true, true, true, true, true, true, true, false] (fun gg fk4 dsk4 wr => ∃ (j360 : Int) (x358 : List (Int × Int)) (V359 : Value), (fk4 107) = .int .i64 j360 ∧ Hid (Below w.heap.size w wr) ∧ Hid (HP wr w.heap.size [.fl (owX 22 (some ⟨W340.heap.size, 0, none⟩) (V359)), .fl (owL V359 (x358)), .fl (owI (.slice (some ⟨b306, o307, none⟩) (y298).length cap305) (y298)), .fl (owX 48 (some ⟨W59.heap.size, 0, none⟩) (.int .u64 (((x72) : Nat) : Int))), .fl (owX 45 (some ⟨(W18.heap.size + 1), 0, none⟩) ((.slice (some ⟨W18.heap.size, 0, none⟩) N61 N61))), .fl (owM (.slice (some ⟨W18.heap.size, 0, none⟩) N61 N61) ((List.set x71 (Int.toNat y302) y339))), .fl (owX 23 (some ⟨(w.heap.size + 1), 0, none⟩) ((.slice (some ⟨w.heap.size, 0, none⟩) N12 N12))), .fl (owI (.slice (some ⟨w.heap.size, 0, none⟩) N12 N12) (x70))]) ∧ Hid (Marks w.heap.size dsk4 wr) ∧ Hid (prufer_Read_L4 F ((List.set x71 (Int.toNat y302) y339)) gg j360 x358 = some o357)) F _ (by simp only [agreeB, and_self, true_and]) ⟨0, [], (.slice none 0 0), rfl, HD, HOA, HMK, HL4⟩ ?round
                  case round =>
                    intro gk fk4 dsk4 wr hrel _ _ hJ4 _
                    obtain ⟨j360, x358, V359, hf361, HD, HOA, HMK, HL4⟩ := hrel
                    simp only [setB, Nat.reduceAdd, hf361]
                    clear hf361
                    rename World => W362
                    cases gk with
                    | zero => exact absurd ((prufer_Read_L4_0 ..).symm.trans HL4.out) (by intro h; cases h)
                    | succ g4 =>
                      replace HL4 := Lib.hid ((prufer_Read_L4_s ..).symm.trans HL4.out)
                      by_cases hc363 : j360 < (((List.set x71 (Int.toNat y302) y339)).length : Int)
                      · replace HL4 := Lib.hid (ifT hc363 HL4.out)
                        have HK364 := Lib.hid hc363
                        try rw [← HP.len_M HOA.out (List.Mem.tail _ (List.Mem.tail _ (List.Mem.tail _ (List.Mem.tail _ (List.Mem.tail _ (List.Mem.head _))))))] at hc363
                        have fb365 := HP.bx HOA.out (List.Mem.tail _ (List.Mem.tail _ (List.Mem.tail _ (List.Mem.tail _ (List.Mem.head _)))))
                        obtain ⟨y366, hy367, hm⟩ := obind HL4.out
                        replace HL4 := Lib.hid hm; clear hm
                        obtain ⟨b368, o369, ea370, _, f371, f372, f373⟩ := ReadsM.ix (HP.rd_M HOA.out (List.Mem.tail _ (List.Mem.tail _ (List.Mem.tail _ (List.Mem.tail _ (List.Mem.tail _ (List.Mem.head _))))))) hy367
                        cases ea370
                        try simp only [Nat.zero_add, Nat.add_zero, Int.toNat_natCast, Int.toNat_zero, Int.toNat_one] at f373
                        try rw [← HP.len_M HOA.out (List.Mem.tail _ (List.Mem.tail _ (List.Mem.tail _ (List.Mem.tail _ (List.Mem.tail _ (List.Mem.head _))))))] at f372
                        have HY375 := Lib.hid hy367; clear hy367
                        go_upto_region 30 with (fail)
                        have hd : Below W362.heap.size W362 (W362.alloc (.cells #[.int .i64 (j360)] 3)) := (Below.refl _ _).alloc (Nat.le_refl _) _
                        have ho := owX_ok W362 3 (.int .i64 (j360))
                        generalize hW : World.alloc W362 _ = W376 at *
                        clear hW
                        try clear hc363 fb365 f371 f372 f373
                        replace HOA := Lib.hid (HOA.out.call hd HD.out.size ho); clear ho
                        replace HD := Lib.hid (HD.out.trans (hd.mono HD.out.size))
                        replace HMK := Lib.hid (HMK.out.nc (NC.of_below hd))
                        clear hd
                        obtain ⟨y378, hy379, hm⟩ := obind HL4.out
                        replace HL4 := Lib.hid hm; clear hm
                        obtain ⟨hlt, hml⟩ := s_of hy379
                        have HLT381 := Lib.hid hlt; have HML382 := Lib.hid hml; clear hlt hml hy379
                        obtain ⟨o380, ho, hm⟩ := obind HL4.out
                        replace HL4 := Lib.hid hm; have HL5 := Lib.hid ho; clear hm ho
                        go_wp2_with fail
                        refine (each_any _ _).mono ?_; rintro e w' ⟨rfl, rfl⟩
                        go_wp2_with fail
                        have hd : Below W376.heap.size W376 (W376.alloc (.cells #[.int .u64 (((y366) : Nat) : Int)] 48)) := (Below.refl _ _).alloc (Nat.le_refl _) _
                        have ho := owX_ok W376 48 (.int .u64 (((y366) : Nat) : Int))
                        generalize hW : World.alloc W376 _ = W383 at *
                        clear hW
                        replace HOA := Lib.hid (HOA.out.call hd HD.out.size ho); clear ho
                        replace HD := Lib.hid (HD.out.trans (hd.mono HD.out.size))
                        replace HMK := Lib.hid (HMK.out.nc (NC.of_below hd))
                        clear hd
                        have HDk387 := HD
                        refine (wpIn_wide (n := 5)).1 (wp_each2 (m := y366) (Bs := W376.heap.size) (by omega) HLT381.out rfl (HP.bx HOA.out (List.Mem.head _)) rfl (fun rest W => ∃ (x385 : List (Int × Int)) (V386 : Value), Hid (Below w.heap.size w W) ∧ Hid (NC W383 W) ∧ Hid (HP W w.heap.size [.fl (owX 48 (some ⟨W376.heap.size, 0, none⟩) (.int .u64 (((y366) : Nat) : Int))), .fl (owX 3 (some ⟨W362.heap.size, 0, none⟩) (.int .i64 (j360))), .fl (owX 22 (some ⟨W340.heap.size, 0, none⟩) (V386)), .fl (owL V386 (x385)), .fl (owI (.slice (some ⟨b306, o307, none⟩) (y298).length cap305) (y298)), .fl (owX 48 (some ⟨W59.heap.size, 0, none⟩) (.int .u64 (((x72) : Nat) : Int))), .fl (owX 45 (some ⟨(W18.heap.size + 1), 0, none⟩) ((.slice (some ⟨W18.heap.size, 0, none⟩) N61 N61))), .fl (owM (.slice (some ⟨W18.heap.size, 0, none⟩) N61 N61) ((List.set x71 (Int.toNat y302) y339))), .fl (owX 23 (some ⟨(w.heap.size + 1), 0, none⟩) ((.slice (some ⟨w.heap.size, 0, none⟩) N12 N12))), .fl (owI (.slice (some ⟨w.heap.size, 0, none⟩) N12 N12) (x70))]) ∧ Hid (prufer_Read_L5 F (j360) rest x385 = some o380)) (fun _ _ => False) ?hI_q409 ?hIx_q409 ⟨x358, V359, HD, Lib.hid (NC.refl _), HOA, by rw [HML382.out]; exact HL5⟩ ?a1_q409 ?assign_q409 ?body_q409 ?done_q409 ?stop_q409)
                        case hI_q409 =>
                          rintro rest W W' ⟨x385, V386, hd, hn, hh, hl⟩ hk
                          exact ⟨x385, V386, Lib.hid (hk.below hd.out HDk387.out.size (Nat.le_refl _)), Lib.hid (hn.out.keepC hk (Nat.le_refl _)), Lib.hid (hh.out.keepC hk), hl⟩
                        case hIx_q409 => exact fun _ _ _ h _ => h
                        case assign_q409 =>
                          intro l x W K hK
                          gi_wp2
                          exact hK
                        case body_q409 =>
                          rintro l388 xn389 rest W390 hx ⟨x385, V386, HD, HN, HOA, HL5⟩ _ _ _ hJ392 hJx393 _ hQ391
                          replace HL5 := Lib.hid ((prufer_Read_L5_c ..).symm.trans HL5.out)
                          have HNB := Lib.hid (NC.refl W390)
                          have fb394 := HP.bx HOA.out (List.Mem.tail _ (List.Mem.head _))
                          obtain ⟨A395, cap396, he, _⟩ := HP.open_L HOA.out (List.Mem.tail _ (List.Mem.tail _ (List.Mem.tail _ (List.Mem.head _))))
                          subst he
                          have fb397 := HP.bx HOA.out (List.Mem.tail _ (List.Mem.tail _ (List.Mem.head _)))
                          obtain ⟨y398, hy399, hm⟩ := obind HL5.out
                          replace HL5 := Lib.hid hm; clear hm
                          obtain ⟨f400, hy399⟩ := app_some hy399; subst hy399
                          obtain ⟨V401, W402, hrun, hoa, hb, hn⟩ := run_appL (e' := 41) (y := ((j360, (xn389 : Int))).1) (z := ((j360, (xn389 : Int))).2) (L1 := [_, _, _]) W390 22 22 Tryd.underlying22 HOA.out f400 HD.out.size
                          obtain ⟨A403, cap404, he, _⟩ := HP.open_L hoa (List.Mem.tail _ (List.Mem.tail _ (List.Mem.tail _ (List.Mem.head _))))
                          obtain ⟨n405, hn3⟩ : ∃ n, List.length (x385 ++ [(j360, (xn389 : Int))]) = n := ⟨_, rfl⟩
                          rw [hn3] at he; subst he; clear hn3
                          obtain ⟨q0, q1, hp, hb2⟩ := HP.setBx (its1 := [_, _]) hoa (.slice A403 n405 cap404)
                          have HP_ := Lib.hid hp; have HB_ := Lib.hid hb2; clear hp hb2 hoa
                          have HR_ := Lib.hid hrun; have HN_ := Lib.hid hn; have HOB := Lib.hid hb; clear hrun hn hb
                          gi_wp2_with (gi_at_builtin; refine wpIn_appRun HR_.out rfl rfl rfl rfl ?_)
                          have hp := HP_.out; clear HP_ HR_
                          replace HNB := Lib.hid (HNB.out.trans (HN_.out.trans (NC.setCell W402 ⟨W340.heap.size, 0, none⟩ (.slice A403 n405 cap404))))
                          have hb := HOB.out.trans HB_.out
                          generalize hW : World.setCell W402 _ _ = W406 at *
                          clear hW HB_ HOB HN_
                          try clear q0 q1 fb394 fb397
                          replace HOA := Lib.hid (show HP W406 w.heap.size [.fl (owX 48 (some ⟨W376.heap.size, 0, none⟩) (.int .u64 (((y366) : Nat) : Int))), .fl (owX 3 (some ⟨W362.heap.size, 0, none⟩) (.int .i64 (j360))), .fl (owX 22 (some ⟨W340.heap.size, 0, none⟩) ((.slice A403 n405 cap404))), .fl (owL (.slice A403 n405 cap404) ((x385 ++ [(j360, (xn389 : Int))]))), .fl (owI (.slice (some ⟨b306, o307, none⟩) (y298).length cap305) (y298)), .fl (owX 48 (some ⟨W59.heap.size, 0, none⟩) (.int .u64 (((x72) : Nat) : Int))), .fl (owX 45 (some ⟨(W18.heap.size + 1), 0, none⟩) ((.slice (some ⟨W18.heap.size, 0, none⟩) N61 N61))), .fl (owM (.slice (some ⟨W18.heap.size, 0, none⟩) N61 N61) ((List.set x71 (Int.toNat y302) y339))), .fl (owX 23 (some ⟨(w.heap.size + 1), 0, none⟩) ((.slice (some ⟨w.heap.size, 0, none⟩) N12 N12))), .fl (owI (.slice (some ⟨w.heap.size, 0, none⟩) N12 N12) (x70))] from hp); clear hp
                          replace HD := Lib.hid (HD.out.trans hb); clear hb
                          gi_wp2_with fail
                          exact ⟨HNB.out, HP.bx HOA.out (List.Mem.head _), hJ392 _ ⟨(x385 ++ [(j360, (xn389 : Int))]), (.slice A403 n405 cap404), HD, Lib.hid (HN.out.trans HNB.out), HOA, HL5⟩⟩
                        case done_q409 =>
                          rintro D407 W408 hD ⟨x385, V386, HD, HN, HOA, HL5⟩ hK
                          have hov := Option.some.inj ((prufer_Read_L5_n ..).symm.trans HL5.out)
                          replace HMK := Lib.hid (HMK.out.push HN.out hD HDk387.out.size hK); clear hK hD HN
                          subst hov
                          have hm := HL4.out; try dsimp only at hm
                          replace HL4 := Lib.hid hm; clear hm
                          go_wp2_with fail
                          replace HOA := Lib.hid (HOA.out.sub (.cons _ (.cons _ (.cons₂ _ (.cons₂ _ (.cons₂ _ (.cons₂ _ (.cons₂ _ (.cons₂ _ (.cons₂ _ (.cons₂ _ .slnil)))))))))))
                          refine Handed.intro g4 (by omega) ?_
                          refine hJ4 _ _ _ ⟨by simp only [agreeB, and_self, true_and], (wrap64 (j360 + 1)), x385, V386, rfl, HD, HOA, HMK, HL4⟩
                        case stop_q409 => exact fun _ _ _ _ h _ => h.elim
                      · replace HL4 := Lib.hid (ifF hc363 HL4.out)
                        have hc363d := decide_eq_false hc363
                        have HK364 := Lib.hid hc363
                        try rw [← HP.len_M HOA.out (List.Mem.tail _ (List.Mem.tail _ (List.Mem.tail _ (List.Mem.tail _ (List.Mem.tail _ (List.Mem.head _))))))] at hc363
                        obtain rfl := Option.some.inj HL4.out
                        have hm := HM.out; try dsimp only at hm
                        replace HM := Lib.hid hm; clear hm
                        obtain ⟨A410, cap411, he, _⟩ := HP.open_L HOA.out (List.Mem.tail _ (List.Mem.head _))
                        subst he
                        have fb412 := HP.bx HOA.out (List.Mem.head _)
                        obtain rfl := Option.some.inj HM.out
                        go_wp2_with fail
                        try clear hc363 hc363d fb412
                        refine leave_marks (B := w.heap.size) _ _ HMK.out (fun W' => results_tmp2 rfl _ _ _) (fun W' hk => ⟨_, rfl, (HOA.out.keepC hk).get (List.Mem.tail _ (List.Mem.head _)), hk.below HD.out (Nat.le_refl _) (Nat.le_refl _)⟩)
end Go.Proofs.YtpbkepajgdmbpaaDoor
