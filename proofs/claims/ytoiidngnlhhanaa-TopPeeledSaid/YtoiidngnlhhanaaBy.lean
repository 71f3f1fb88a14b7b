import Derived.Test.YtoiidngnlhhanaaGR
import Derived.Test.YtoiidngnlhhanaaSlc
import Derived.Test.YtoiidngnlhhanaaRep
import Derived.Test.YtoiidngnlhhanaaBox
set_option linter.all false
set_option maxRecDepth 100000
namespace Go.Proofs.Ytoiidngnlhhanaa
open Go.RowKit
attribute [local go_sem] Oper.semAt_some
def color_By_L1 (F : Nat) (v2 : List Int) : Nat → (Int) → Option ((Unit) ⊕ (List Int × Int))
  | 0, _ => none
  | g+1, j => if j < ((v2).length : Int) then (ix v2 j).bind fun y => ((tk v2 j).bind fun y3 => (slices_Contains_int_int F (y3) (y)).bind fun y4 => if y4 = true then some (.inr (([], 6))) else color_By_L1 F v2 g (wrap64 (j + 1))) else some (.inl ())
theorem color_By_L1_0 (F : Nat) (v2 : List Int) (j : Int) : color_By_L1 F v2 0 j = none := by rw [color_By_L1]
theorem color_By_L1_s (F g : Nat) (v2 : List Int) (j : Int) : color_By_L1 F v2 (g+1) j = (if j < ((v2).length : Int) then (ix v2 j).bind fun y => ((tk v2 j).bind fun y3 => (slices_Contains_int_int F (y3) (y)).bind fun y4 => if y4 = true then some (.inr (([], 6))) else color_By_L1 F v2 g (wrap64 (j + 1))) else some (.inl ())) := by rw [color_By_L1]
def color_By_L3 (F : Nat) (v9 : List Int) : List Nat → (Nat) → Option (Nat)
  | [], v12 => some (v12)
  | x :: xs, v12 => ((ix v9 (x : Int)).bind fun y8 => if 0 ≤ y8 then (ix v9 (x : Int)).bind fun y9 => (sWith (v12) (y9)).bind fun y10 => color_By_L3 F v9 xs (y10) else color_By_L3 F v9 xs (v12))
theorem color_By_L3_n (F : Nat) (v9 : List Int) (v12 : Nat) : color_By_L3 F v9 [] v12 = some (v12) := by rw [color_By_L3]
theorem color_By_L3_c (F : Nat) (v9 : List Int) (v12 : Nat) (x : Nat) (xs : List Nat) : color_By_L3 F v9 (x :: xs) v12 = (((ix v9 (x : Int)).bind fun y8 => if 0 ≤ y8 then (ix v9 (x : Int)).bind fun y9 => (sWith (v12) (y9)).bind fun y10 => color_By_L3 F v9 xs (y10) else color_By_L3 F v9 xs (v12))) := by rw [color_By_L3]
def color_By_L4 (F : Nat) (v11 : Int) (v12 : Nat) : Nat → (List Int) → Option (List Int)
  | 0, _ => none
  | g+1, v9 => (ix v9 v11).bind fun y15 => (sHas (v12) (y15)).bind fun y16 => if y16 = true then (ix v9 v11).bind fun y18 => (st v9 v11 (wrap64 (y18 + 1))).bind fun y17 => color_By_L4 F v11 v12 g (y17) else some (v9)
theorem color_By_L4_0 (F : Nat) (v11 : Int) (v12 : Nat) (v9 : List Int) : color_By_L4 F v11 v12 0 v9 = none := by rw [color_By_L4]
theorem color_By_L4_s (F g : Nat) (v11 : Int) (v12 : Nat) (v9 : List Int) : color_By_L4 F v11 v12 (g+1) v9 = ((ix v9 v11).bind fun y15 => (sHas (v12) (y15)).bind fun y16 => if y16 = true then (ix v9 v11).bind fun y18 => (st v9 v11 (wrap64 (y18 + 1))).bind fun y17 => color_By_L4 F v11 v12 g (y17) else some (v9)) := by rw [color_By_L4]
def color_By_L2 (F : Nat) (v2 : List Int) (v8 : List Nat) : Nat → (Int) → (List Int) → Option (List Int)
  | 0, _, _ => none
  | g+1, j, v9 => if j < ((v2).length : Int) then (ix v2 j).bind fun y => (ix v8 y).bind fun y13 => (sEach y13).bind fun y12 => (color_By_L3 F (v9) y12 (0)).bind fun o11 => (st v9 y 0).bind fun y14 => (color_By_L4 F (y) (o11) F (y14)).bind fun o19 => color_By_L2 F v2 v8 g (wrap64 (j + 1)) (o19) else some (v9)
theorem color_By_L2_0 (F : Nat) (v2 : List Int) (v8 : List Nat) (v9 : List Int) (j : Int) : color_By_L2 F v2 v8 0 j v9 = none := by rw [color_By_L2]
theorem color_By_L2_s (F g : Nat) (v2 : List Int) (v8 : List Nat) (v9 : List Int) (j : Int) : color_By_L2 F v2 v8 (g+1) j v9 = (if j < ((v2).length : Int) then (ix v2 j).bind fun y => (ix v8 y).bind fun y13 => (sEach y13).bind fun y12 => (color_By_L3 F (v9) y12 (0)).bind fun o11 => (st v9 y 0).bind fun y14 => (color_By_L4 F (y) (o11) F (y14)).bind fun o19 => color_By_L2 F v2 v8 g (wrap64 (j + 1)) (o19) else some (v9)) := by rw [color_By_L2]
def color_By (F : Nat) (v0 : Int) (v1 : List (Int × Int)) (v2 : List Int) : Option (List Int × Int) := (mCheck (v0) (v1)).bind fun y1 => (if (y1 != 0) = true then some (([], y1)) else (if (((v2).length : Int) != v0) = true then some (([], 3)) else ((core_All F (v2) (0) ((wrap64 (v0 - 1)))).bind fun y2 => if y2 = true then (color_By_L1 F (v2) F (0)).bind fun o5 => match o5 with | .inr r => some (r) | .inl o5 => (mBeside (v0) (v1)).bind fun y6 => (slRep ([(-1)]) (v0)).bind fun y7 => (color_By_L2 F (v2) (y6) F (0) (y7)).bind fun o20 => some ((o20, 0)) else some (([], 1)))))
set_option maxRecDepth 100000 in
set_option maxHeartbeats 4000000 in
theorem color_By_ok {F : Nat} {v0 : Int} {v1 : List (Int × Int)} {A1 : Option Addr} {v2 : List Int} {A2 : Option Addr} {r : List Int × Int} (w : World) (cap1 : Nat) (hr1 : ReadsL w w.heap.size A1 v1) (cap2 : Nat) (hr2 : ReadsI w w.heap.size A2 v2) (hcap2 : v2.length ≤ cap2) (h : color_By F v0 v1 v2 = some r) :
    Calls Try.prog 6 #[.int .i64 v0, .slice A1 v1.length cap1, .slice A2 v2.length cap2] w (PostG (fun v => (.tuple #[v, (errV 45 r.2)])) (fun v => owI v r.1) w.heap.size w) := by
  have HR1 := Lib.hid hr1; clear hr1
  have HR2 := Lib.hid hr2; clear hr2
  have HCAP2 := Lib.hid hcap2; clear hcap2
  have HD := Lib.hid (Below.refl w.heap.size w)
  have HOA := Lib.hid (HP.nil (W := w) (B := w.heap.size))
  unfold color_By at h
  have HM := Lib.hid h; clear h
  have HMK := Lib.hid (Marks.nil w.heap.size w)
  refine (callsIn_wide (n := 5)).1 ?_
  refine callsIn_of_wp_marks Try.func6 rfl trivial ?_ rfl
  simp only [Try.ntmps6, List.size_toArray, List.length_cons, List.length_nil, Nat.reduceAdd, Nat.reduceSub, Array.replicate_succ, Array.replicate_zero, List.push_toArray, List.append_toArray, List.nil_append, List.cons_append]
  refine wpIn_wide.2 ?_
  obtain ⟨y3, hy1, hm⟩ := obind HM.out
  replace HM := Lib.hid hm; clear hm
  have HC2 := mCheck_ok w cap1 (rdL HD.out HR1.out) hy1
  clear hy1
  by_cases hz4 : y3 = 0
  · subst hz4
    rw [errV_zero] at HC2; replace HC2 := Lib.hid HC2
    go_wp2_with fail
    refine HC2.out.mono ?_; rintro e W5 ⟨rfl, hd⟩
    replace HOA := Lib.hid (HOA.out.below hd)
    replace HD := Lib.hid (HD.out.trans (hd.mono HD.out.size))
    replace HMK := Lib.hid (HMK.out.nc (NC.of_below hd))
    clear hd
    replace HM := Lib.hid (ifF (by decide) HM.out)
    rcases Bool.eq_false_or_eq_true (((v2).length : Int) != v0) with hc8 | hc8
    · replace HM := Lib.hid (ifT hc8 HM.out)
      have HK9 := Lib.hid hc8
      obtain rfl := Option.some.inj HM.out
      go_wp2_with fail
      try clear hc8
      refine leave_marks (B := w.heap.size) _ _ HMK.out (fun W' => results_tmp2 rfl _ _ _) (fun W' hk => ⟨_, rfl, World.ownsRow_nil _ _ _ _, hk.below HD.out (Nat.le_refl _) (Nat.le_refl _)⟩)
    · replace HM := Lib.hid (ifF (bF hc8) HM.out)
      have HK9 := Lib.hid hc8
      obtain ⟨y12, hy10, hm⟩ := obind HM.out
      replace HM := Lib.hid hm; clear hm
      have HC11 := core_All_ok W5 cap2 (rdI HD.out HR2.out) hy10
      clear hy10
      replace HC11 := Lib.hid HC11
      cases y12
      · replace HM := Lib.hid (ifF Bool.false_ne_true HM.out)
        obtain rfl := Option.some.inj HM.out
        go_wp2_with fail
        refine HC11.out.mono ?_; rintro e w' ⟨rfl, rfl⟩
        go_wp2_with fail
        try clear hc8
        refine leave_marks (B := w.heap.size) _ _ HMK.out (fun W' => results_tmp2 rfl _ _ _) (fun W' hk => ⟨_, rfl, World.ownsRow_nil _ _ _ _, hk.below HD.out (Nat.le_refl _) (Nat.le_refl _)⟩)
      · replace HM := Lib.hid (ifT rfl HM.out)
        go_wp2_with fail
        refine HC11.out.mono ?_; rintro e w' ⟨rfl, rfl⟩
        go_wp2_with fail
        try clear hc8
        obtain ⟨o13, ho, hm⟩ := obind HM.out
        replace HM := Lib.hid hm; have HL1 := Lib.hid ho; clear hm ho
        go_loopg [36] F (fun gg uj wr => ∃ (j14 : Int), uj = .int .i64 j14 ∧ Hid (Below W5.heap.size W5 wr) ∧ Hid (color_By_L1 F (v2) gg j14 = some o13))
        case atStart => exact ⟨0, rfl, (Lib.hid (Below.refl _ _)), HL1⟩
        case round =>
          obtain ⟨j14, rfl, HW1, HL1⟩ := hrel
          rename World => W15
          have hd := HW1.out
          replace HOA := Lib.hid (HOA.out.below hd)
          replace HD := Lib.hid (HD.out.trans (hd.mono HD.out.size))
          replace HMK := Lib.hid (HMK.out.nc (NC.of_below hd))
          clear hd
          cases gk with
          | zero => exact absurd ((color_By_L1_0 ..).symm.trans HL1.out) (by intro h; cases h)
          | succ g1 =>
            replace HL1 := Lib.hid ((color_By_L1_s ..).symm.trans HL1.out)
            by_cases hc16 : j14 < ((v2).length : Int)
            · replace HL1 := Lib.hid (ifT hc16 HL1.out)
              have HK17 := Lib.hid hc16
              obtain ⟨y18, hy19, hm⟩ := obind HL1.out
              replace HL1 := Lib.hid hm; clear hm
              obtain ⟨b20, o21, ea22, _, f23, f24, f25⟩ := ReadsI.ix (rdI HD.out HR2.out) hy19
              cases ea22
              try simp only [Nat.zero_add, Nat.add_zero, Int.toNat_natCast, Int.toNat_zero, Int.toNat_one] at f25
              have HY27 := Lib.hid hy19; clear hy19
              obtain ⟨y28, hy29, hm⟩ := obind HL1.out
              replace HL1 := Lib.hid hm; clear hm
              obtain ⟨f30, hy29⟩ := tk_some hy29; subst hy29
              obtain ⟨A31, n36, cap32, hsl33, hrs, hcs, hns⟩ := ReadsI.sliceU (rdI HD.out HR2.out) HCAP2.out f30
              have HR34 := Lib.hid hrs; have HCAP35 := Lib.hid hcs; have HN37 := Lib.hid hns; clear hrs hcs hns f30
              obtain ⟨y40, hy38, hm⟩ := obind HL1.out
              replace HL1 := Lib.hid hm; clear hm
              have HC39 := slices_Contains_int_int_ok W15 cap32 HR34.out hy38
              clear hy38
              simp only [← HN37.out] at HC39
              replace HC39 := Lib.hid HC39
              cases y40
              · replace HL1 := Lib.hid (ifF Bool.false_ne_true HL1.out)
                go_wp2_with fail
                refine HC39.out.mono ?_; rintro e w' ⟨rfl, rfl⟩
                go_wp2_with fail
                try clear hc16 f23 f24 f25 hsl33
                go_roundg g1
                case measure => omega
                case rel => exact ⟨(wrap64 (j14 + 1)), rfl, HW1, HL1⟩
              · replace HL1 := Lib.hid (ifT rfl HL1.out)
                obtain rfl := Option.some.inj HL1.out
                have hm := HM.out; try dsimp only at hm
                replace HM := Lib.hid hm; clear hm
                obtain rfl := Option.some.inj HM.out
                go_wp2_with fail
                refine HC39.out.mono ?_; rintro e w' ⟨rfl, rfl⟩
                go_wp2_with fail
                try clear hc16 f23 f24 f25 hsl33
                refine leave_marks (B := w.heap.size) _ _ HMK.out (fun W' => results_tmp2 rfl _ _ _) (fun W' hk => ⟨_, rfl, World.ownsRow_nil _ _ _ _, hk.below HD.out (Nat.le_refl _) (Nat.le_refl _)⟩)
            · replace HL1 := Lib.hid (ifF hc16 HL1.out)
              have hc16d := decide_eq_false hc16
              have HK17 := Lib.hid hc16
              obtain rfl := Option.some.inj HL1.out
              have hm := HM.out; try dsimp only at hm
              replace HM := Lib.hid hm; clear hm
              obtain ⟨y43, hy41, hm⟩ := obind HM.out
              replace HM := Lib.hid hm; clear hm
              have HC42 := mBeside_ok W15 cap1 (rdL HD.out HR1.out) hy41
              clear hy41
              replace HC42 := Lib.hid HC42
              go_wp2_with fail
              refine HC42.out.mono ?_; rintro e W44 ⟨V45, rfl, ho, hd⟩
              try clear hc16 hc16d
              replace HOA := Lib.hid (HOA.out.call hd HD.out.size ho); clear ho
              replace HD := Lib.hid (HD.out.trans (hd.mono HD.out.size))
              replace HMK := Lib.hid (HMK.out.nc (NC.of_below hd))
              clear hd
              have hd : Below W44.heap.size W44 (World.alloc W44 (.cells #[Value.int .i64 ((-1))] 3)) := (Below.refl _ _).alloc (Nat.le_refl _) _
              have ho : (owI (.slice (some ⟨W44.heap.size, 0, none⟩) 1 1) [(-1)]).ok (World.alloc W44 (.cells #[Value.int .i64 ((-1))] 3)) W44.heap.size := litI_ok W44 [(-1)] (by unfold maxLen; simp)
              replace HOA := Lib.hid (HOA.out.call hd HD.out.size ho); clear ho
              replace HD := Lib.hid (HD.out.trans (hd.mono HD.out.size))
              replace HMK := Lib.hid (HMK.out.nc (NC.of_below hd))
              clear hd
              obtain ⟨y51, hy49, hm⟩ := obind HM.out
              replace HM := Lib.hid hm; clear hm
              have HC50 := slRep_ok (World.alloc W44 (.cells #[Value.int .i64 ((-1))] 3)) 1 (HP.rd_I HOA.out (List.Mem.head _)) hy49
              clear hy49
              try rw [← HP.len_I HOA.out (List.Mem.head _)] at HC50
              replace HC50 := Lib.hid HC50
              go_wp2_with fail
              refine HC50.out.mono ?_; rintro e W52 ⟨V53, rfl, ho, hd⟩
              replace HOA := Lib.hid (HOA.out.call hd HD.out.size ho); clear ho
              replace HD := Lib.hid (HD.out.trans (hd.mono HD.out.size))
              replace HMK := Lib.hid (HMK.out.nc (NC.of_below hd))
              clear hd
              obtain ⟨A55, cap56, he, _⟩ := HP.open_I HOA.out (List.Mem.head _)
              subst he
              go_upto_region 16 with (fail)
              have hd : Below W52.heap.size W52 (W52.alloc (.cells #[(.slice A55 (y51).length cap56)] 23)) := (Below.refl _ _).alloc (Nat.le_refl _) _
              have ho := owX_ok W52 23 ((.slice A55 (y51).length cap56))
              generalize hW : World.alloc W52 _ = W57 at *
              clear hW
              replace HOA := Lib.hid (HOA.out.call hd HD.out.size ho); clear ho
              replace HD := Lib.hid (HD.out.trans (hd.mono HD.out.size))
              replace HMK := Lib.hid (HMK.out.nc (NC.of_below hd))
              clear hd
              go_wp2_with fail
              obtain ⟨o59, ho, hm⟩ := obind HM.out
              replace HM := Lib.hid hm; have HL2 := Lib.hid ho; clear hm ho
              replace HOA := Lib.hid (HOA.out.sub (.cons₂ _ (.cons₂ _ (.cons _ (.cons₂ _ .slnil)))))
              refine wp_loop_marks _ [false, false, false, false, false, false, false, false, false, false, false, false, false, false, true, true, true, false, false, false, false, false, false, false, false, false, false, false, false, false, false, false, false, false, false, false, false, false, false, false, false, false, false, false, false, false, false, false, false, false, false, false, false, false, false, false, true, true, true, true, true, true, true, true, true, false, true, true, true, true, true, true, true, true, true, true, true, true, true, true, true, true, true, true, true, true, true, true, true, true, true, true, true, false] (fun gg fk2 dsk2 wr => ∃ (j61 : Int) (x60 : List Int), (fk2 56) = .int .i64 j61 ∧ Hid (Below w.heap.size w wr) ∧ Hid (HP wr w.heap.size [.fl (owX 23 (some ⟨W52.heap.size, 0, none⟩) ((.slice A55 (y51).length cap56))), .fl (owI (.slice A55 (y51).length cap56) (x60)), .fl (owM V45 (y43))]) ∧ Hid (Marks w.heap.size dsk2 wr) ∧ Hid (color_By_L2 F (v2) (y43) gg j61 x60 = some o59)) F _ (by simp only [agreeB, and_self, true_and]) ⟨0, y51, rfl, HD, HOA, HMK, HL2⟩ ?round
              case round =>
                intro gk fk2 dsk2 wr hrel _ _ hJ2 _
                obtain ⟨j61, x60, hf62, HD, HOA, HMK, HL2⟩ := hrel
                simp only [setB, Nat.reduceAdd, hf62]
                clear hf62
                rename World => W63
                cases gk with
                | zero => exact absurd ((color_By_L2_0 ..).symm.trans HL2.out) (by intro h; cases h)
                | succ g2 =>
                  replace HL2 := Lib.hid ((color_By_L2_s ..).symm.trans HL2.out)
                  by_cases hc64 : j61 < ((v2).length : Int)
                  · replace HL2 := Lib.hid (ifT hc64 HL2.out)
                    have HK65 := Lib.hid hc64
                    obtain ⟨y66, hy67, hm⟩ := obind HL2.out
                    replace HL2 := Lib.hid hm; clear hm
                    obtain ⟨b68, o69, ea70, _, f71, f72, f73⟩ := ReadsI.ix (rdI HD.out HR2.out) hy67
                    cases ea70
                    try simp only [Nat.zero_add, Nat.add_zero, Int.toNat_natCast, Int.toNat_zero, Int.toNat_one] at f73
                    have HY75 := Lib.hid hy67; clear hy67
                    go_upto_region 20 with (fail)
                    have hd : Below W63.heap.size W63 (W63.alloc (.cells #[.int .u64 (((0) : Nat) : Int)] 39)) := (Below.refl _ _).alloc (Nat.le_refl _) _
                    have ho := owX_ok W63 39 (.int .u64 (((0) : Nat) : Int))
                    generalize hW : World.alloc W63 _ = W76 at *
                    clear hW
                    try clear hc64 f71 f72 f73
                    replace HOA := Lib.hid (HOA.out.call hd HD.out.size ho); clear ho
                    replace HD := Lib.hid (HD.out.trans (hd.mono HD.out.size))
                    replace HMK := Lib.hid (HMK.out.nc (NC.of_below hd))
                    clear hd
                    obtain ⟨A80, cap81, he, _⟩ := HP.open_M HOA.out (List.Mem.tail _ (List.Mem.tail _ (List.Mem.tail _ (List.Mem.head _))))
                    subst he
                    obtain ⟨y78, hy79, hm⟩ := obind HL2.out
                    replace HL2 := Lib.hid hm; clear hm
                    obtain ⟨b82, o83, ea84, _, f85, f86, f87⟩ := ReadsM.ix (HP.rd_M HOA.out (List.Mem.tail _ (List.Mem.tail _ (List.Mem.tail _ (List.Mem.head _))))) hy79
                    cases ea84
                    try simp only [Nat.zero_add, Nat.add_zero, Int.toNat_natCast, Int.toNat_zero, Int.toNat_one] at f87
                    try rw [← HP.len_M HOA.out (List.Mem.tail _ (List.Mem.tail _ (List.Mem.tail _ (List.Mem.head _))))] at f86
                    have HY89 := Lib.hid hy79; clear hy79
                    obtain ⟨y90, hy91, hm⟩ := obind HL2.out
                    replace HL2 := Lib.hid hm; clear hm
                    obtain ⟨hlt, hml⟩ := s_of hy91
                    have HLT93 := Lib.hid hlt; have HML94 := Lib.hid hml; clear hlt hml hy91
                    obtain ⟨o92, ho, hm⟩ := obind HL2.out
                    replace HL2 := Lib.hid hm; have HL3 := Lib.hid ho; clear hm ho
                    go_wp2_with fail
                    refine (each_any _ _).mono ?_; rintro e w' ⟨rfl, rfl⟩
                    go_wp2_with fail
                    try clear f85 f86 f87
                    have hd : Below W76.heap.size W76 (W76.alloc (.cells #[.int .u64 (((y78) : Nat) : Int)] 39)) := (Below.refl _ _).alloc (Nat.le_refl _) _
                    have ho := owX_ok W76 39 (.int .u64 (((y78) : Nat) : Int))
                    generalize hW : World.alloc W76 _ = W95 at *
                    clear hW
                    replace HOA := Lib.hid (HOA.out.call hd HD.out.size ho); clear ho
                    replace HD := Lib.hid (HD.out.trans (hd.mono HD.out.size))
                    replace HMK := Lib.hid (HMK.out.nc (NC.of_below hd))
                    clear hd
                    have HDk98 := HD
                    refine (wpIn_wide (n := 5)).1 (wp_each2 (m := y78) (Bs := W76.heap.size) (by omega) HLT93.out rfl (HP.bx HOA.out (List.Mem.head _)) rfl (fun rest W => ∃ (x97 : Nat), Hid (Below w.heap.size w W) ∧ Hid (NC W95 W) ∧ Hid (HP W w.heap.size [.fl (owX 39 (some ⟨W76.heap.size, 0, none⟩) (.int .u64 (((y78) : Nat) : Int))), .fl (owX 39 (some ⟨W63.heap.size, 0, none⟩) (.int .u64 (((x97) : Nat) : Int))), .fl (owX 23 (some ⟨W52.heap.size, 0, none⟩) ((.slice A55 (y51).length cap56))), .fl (owI (.slice A55 (y51).length cap56) (x60)), .fl (owM (.slice (some ⟨b82, o83, none⟩) (y43).length cap81) (y43))]) ∧ Hid (color_By_L3 F (x60) rest x97 = some o92)) (fun _ _ => False) ?hI_q194 ?hIx_q194 ⟨0, HD, Lib.hid (NC.refl _), HOA, by rw [HML94.out]; exact HL3⟩ ?a1_q194 ?assign_q194 ?body_q194 ?done_q194 ?stop_q194)
                    case hI_q194 =>
                      rintro rest W W' ⟨x97, hd, hn, hh, hl⟩ hk
                      exact ⟨x97, Lib.hid (hk.below hd.out HDk98.out.size (Nat.le_refl _)), Lib.hid (hn.out.keepC hk (Nat.le_refl _)), Lib.hid (hh.out.keepC hk), hl⟩
                    case hIx_q194 => exact fun _ _ _ h _ => h
                    case assign_q194 =>
                      intro l x W K hK
                      gi_wp2
                      exact hK
                    case body_q194 =>
                      rintro l99 xn100 rest W101 hx ⟨x97, HD, HN, HOA, HL3⟩ _ _ _ hJ103 hJx104 _ hQ102
                      replace HL3 := Lib.hid ((color_By_L3_c ..).symm.trans HL3.out)
                      have HNB := Lib.hid (NC.refl W101)
                      have fb105 := HP.bx HOA.out (List.Mem.tail _ (List.Mem.tail _ (List.Mem.head _)))
                      obtain ⟨y106, hy107, hm⟩ := obind HL3.out
                      replace HL3 := Lib.hid hm; clear hm
                      obtain ⟨b108, o109, ea110, _, f111, f112, f113⟩ := ReadsI.ix (HP.rd_I HOA.out (List.Mem.tail _ (List.Mem.tail _ (List.Mem.tail _ (List.Mem.head _))))) hy107
                      cases ea110
                      try simp only [Nat.zero_add, Nat.add_zero, Int.toNat_natCast, Int.toNat_zero, Int.toNat_one] at f113
                      try rw [← HP.len_I HOA.out (List.Mem.tail _ (List.Mem.tail _ (List.Mem.tail _ (List.Mem.head _))))] at f112
                      have HY115 := Lib.hid hy107; clear hy107
                      by_cases hc116 : 0 ≤ y106
                      · replace HL3 := Lib.hid (ifT hc116 HL3.out)
                        have HK117 := Lib.hid hc116
                        try gi_wp2_with fail
                        try clear fb105 f111 f112 f113 hc116
                        have fb118 := HP.bx HOA.out (List.Mem.tail _ (List.Mem.head _))
                        have fb119 := HP.bx HOA.out (List.Mem.tail _ (List.Mem.tail _ (List.Mem.head _)))
                        obtain ⟨y120, hy121, hm⟩ := obind HL3.out
                        replace HL3 := Lib.hid hm; clear hm
                        obtain ⟨b122, o123, ea124, _, f125, f126, f127⟩ := ReadsI.ix (HP.rd_I HOA.out (List.Mem.tail _ (List.Mem.tail _ (List.Mem.tail _ (List.Mem.head _))))) hy121
                        cases ea124
                        try simp only [Nat.zero_add, Nat.add_zero, Int.toNat_natCast, Int.toNat_zero, Int.toNat_one] at f127
                        try rw [← HP.len_I HOA.out (List.Mem.tail _ (List.Mem.tail _ (List.Mem.tail _ (List.Mem.head _))))] at f126
                        have HY129 := Lib.hid hy121; clear hy121
                        obtain ⟨y132, hy130, hm⟩ := obind HL3.out
                        replace HL3 := Lib.hid hm; clear hm
                        have HC131 := Lib.hid (fun m => sWith_ok (W101.drewN m)  hy130)
                        clear hy130
                        obtain ⟨q0, q1, hp, hb⟩ := HP.setBx (its1 := [_]) HOA.out (.int .u64 (((y132) : Nat) : Int))
                        have HP_ := Lib.hid hp; have HB_ := Lib.hid hb; clear hp hb
                        refine wpIn_region_still_tail (open_round l99) 6 (by kernel_rfl) (by kernel_rfl) (by kernel_rfl) ?_; simp only [List.take_succ_cons, List.take_zero, List.drop_succ_cons, List.drop_zero]; repeat still_step; try refine wpStill_nil ?_
                        still_call ((HC131.out 1).mono fun _ _ ⟨h1, h2⟩ => ⟨h1, h2.symm⟩)
                        repeat still_step
                        refine wpStill_nil ?_
                        change wpListIn _ _ _ _ _ _ _ (World.drew W101)
                        gi_wp2_with fail
                        have hp := HP_.out.dr (Dr.one _); have hb := HB_.out.trans ((Dr.one _).below _); clear HP_ HB_
                        replace HNB := Lib.hid (HNB.out.trans ((NC.setCell W101 ⟨W63.heap.size, 0, none⟩ (.int .u64 (((y132) : Nat) : Int))).trans (NC.drew _)))
                        generalize hW : World.drew (World.setCell W101 _ _) = W133 at *
                        clear hW
                        try clear q0 q1 fb118 fb119 f125 f126 f127
                        replace HOA := Lib.hid (show HP W133 w.heap.size [.fl (owX 39 (some ⟨W76.heap.size, 0, none⟩) (.int .u64 (((y78) : Nat) : Int))), .fl (owX 39 (some ⟨W63.heap.size, 0, none⟩) (.int .u64 (((y132) : Nat) : Int))), .fl (owX 23 (some ⟨W52.heap.size, 0, none⟩) ((.slice (some ⟨b108, o109, none⟩) (y51).length cap56))), .fl (owI (.slice (some ⟨b108, o109, none⟩) (y51).length cap56) (x60)), .fl (owM (.slice (some ⟨b82, o83, none⟩) (y43).length cap81) (y43))] from hp); clear hp
                        replace HD := Lib.hid (HD.out.trans hb); clear hb
                        gi_wp2_with fail
                        exact ⟨HNB.out, HP.bx HOA.out (List.Mem.head _), hJ103 _ ⟨y132, HD, Lib.hid (HN.out.trans HNB.out), HOA, HL3⟩⟩
                      · replace HL3 := Lib.hid (ifF hc116 HL3.out)
                        have hc116d := decide_eq_false hc116
                        have HK117 := Lib.hid hc116
                        gi_wp2_with fail
                        try clear fb105 f111 f112 f113 hc116 hc116d
                        exact ⟨HNB.out, HP.bx HOA.out (List.Mem.head _), hJ103 _ ⟨x97, HD, Lib.hid (HN.out.trans HNB.out), HOA, HL3⟩⟩
                    case done_q194 =>
                      rintro D134 W135 hD ⟨x97, HD, HN, HOA, HL3⟩ hK
                      have hov := Option.some.inj ((color_By_L3_n ..).symm.trans HL3.out)
                      replace HMK := Lib.hid (HMK.out.push HN.out hD HDk98.out.size hK); clear hK hD HN
                      subst hov
                      have hm := HL2.out; try dsimp only at hm
                      replace HL2 := Lib.hid hm; clear hm
                      have fb136 := HP.bx HOA.out (List.Mem.tail _ (List.Mem.tail _ (List.Mem.head _)))
                      obtain ⟨y139, hy138, hm⟩ := obind HL2.out
                      replace HL2 := Lib.hid hm; clear hm
                      obtain ⟨f140, hy138⟩ := st_some hy138; subst hy138
                      obtain ⟨g146, ea, f143, ⟨ux145, f144⟩, hp, hb⟩ := HP.setI (x := 0) (its1 := [_, _, _]) HOA.out f140
                      cases ea
                      obtain ⟨q0, q1⟩ := f140
                      try rw [← HP.len_I HOA.out (List.Mem.tail _ (List.Mem.tail _ (List.Mem.tail _ (List.Mem.head _))))] at q1
                      have HP_ := Lib.hid hp; have HB_ := Lib.hid hb; clear hp hb
                      replace HMK := Lib.hid (HMK.out.nc (ncOf HP_.out))
                      go_upto_region 25 with (fail)
                      have hp := HP_.out; have hb := HB_.out; clear HP_ HB_
                      generalize hW : World.setCell W135 _ _ = W137 at *
                      clear hW
                      try clear f143 f144 q0 q1 fb136
                      replace HOA := Lib.hid (show HP W137 w.heap.size [.fl (owX 39 (some ⟨W76.heap.size, 0, none⟩) (.int .u64 (((y78) : Nat) : Int))), .fl (owX 39 (some ⟨W63.heap.size, 0, none⟩) (.int .u64 (((x97) : Nat) : Int))), .fl (owX 23 (some ⟨W52.heap.size, 0, none⟩) ((.slice (some ⟨g146, 0, none⟩) (y51).length cap56))), .fl (owI (.slice (some ⟨g146, 0, none⟩) (y51).length cap56) ((List.set x60 (Int.toNat y66) 0))), .fl (owM (.slice (some ⟨b82, o83, none⟩) (y43).length cap81) (y43))] from hp); clear hp
                      replace HD := Lib.hid (HD.out.trans hb); clear hb
                      go_wp2_with fail
                      obtain ⟨o150, ho, hm⟩ := obind HL2.out
                      replace HL2 := Lib.hid hm; have HL4 := Lib.hid ho; clear hm ho
                      replace HOA := Lib.hid (HOA.out.sub (.cons _ (.cons₂ _ (.cons₂ _ (.cons₂ _ (.cons₂ _ .slnil))))))
                      go_loopg [] F (fun gg  wr => ∃ (x151 : List Int), Hid (Below w.heap.size w wr) ∧ Hid (HP wr w.heap.size [.fl (owX 39 (some ⟨W63.heap.size, 0, none⟩) (.int .u64 (((x97) : Nat) : Int))), .fl (owX 23 (some ⟨W52.heap.size, 0, none⟩) ((.slice (some ⟨g146, 0, none⟩) (y51).length cap56))), .fl (owI (.slice (some ⟨g146, 0, none⟩) (y51).length cap56) (x151)), .fl (owM (.slice (some ⟨b82, o83, none⟩) (y43).length cap81) (y43))]) ∧ Hid (Marks w.heap.size ({ target := .collected D134, args := #[] } :: dsk2) wr) ∧ Hid (color_By_L4 F (y66) (x97) gg x151 = some o150))
                      case atStart => exact ⟨(List.set x60 (Int.toNat y66) 0), HD, HOA, HMK, HL4⟩
                      case round =>
                        obtain ⟨x151, HD, HOA, HMK, HL4⟩ := hrel
                        rename World => W152
                        cases gk with
                        | zero => exact absurd ((color_By_L4_0 ..).symm.trans HL4.out) (by intro h; cases h)
                        | succ g4 =>
                          replace HL4 := Lib.hid ((color_By_L4_s ..).symm.trans HL4.out)
                          try go_wp2_with fail
                          have fb153 := HP.bx HOA.out (List.Mem.head _)
                          have fb154 := HP.bx HOA.out (List.Mem.tail _ (List.Mem.head _))
                          obtain ⟨y155, hy156, hm⟩ := obind HL4.out
                          replace HL4 := Lib.hid hm; clear hm
                          obtain ⟨b157, o158, ea159, _, f160, f161, f162⟩ := ReadsI.ix (HP.rd_I HOA.out (List.Mem.tail _ (List.Mem.tail _ (List.Mem.head _)))) hy156
                          cases ea159
                          try simp only [Nat.zero_add, Nat.add_zero, Int.toNat_natCast, Int.toNat_zero, Int.toNat_one] at f162
                          try rw [← HP.len_I HOA.out (List.Mem.tail _ (List.Mem.tail _ (List.Mem.head _)))] at f161
                          have HY164 := Lib.hid hy156; clear hy156
                          obtain ⟨y167, hy165, hm⟩ := obind HL4.out
                          replace HL4 := Lib.hid hm; clear hm
                          have HC166 := Lib.hid (fun m => sHas_ok (W152.drewN m)  hy165)
                          clear hy165
                          cases y167
                          · replace HL4 := Lib.hid (ifF Bool.false_ne_true HL4.out)
                            go_quiet (first | (go_at_call 23; exact quiet_left (HC166.out _)))
                            generalize hW : World.drewN W152 _ = W168
                            have hd : Dr W152 W168 := ⟨_, hW.symm⟩
                            clear hW
                            try clear fb153 fb154 f160 f161 f162
                            replace HOA := Lib.hid (HOA.out.below (hd.below _))
                            replace HD := Lib.hid (HD.out.trans ((hd.below _).mono HD.out.size))
                            replace HMK := Lib.hid (HMK.out.nc (NC.of_below (hd.below _)))
                            clear hd
                            obtain rfl := Option.some.inj HL4.out
                            have hm := HL2.out; try dsimp only at hm
                            replace HL2 := Lib.hid hm; clear hm
                            go_wp2_with fail
                            replace HOA := Lib.hid (HOA.out.sub (.cons _ (.cons₂ _ (.cons₂ _ (.cons₂ _ .slnil)))))
                            refine Handed.intro g2 (by omega) ?_
                            refine hJ2 _ _ _ ⟨by simp only [agreeB, and_self, true_and], (wrap64 (j61 + 1)), x151, rfl, HD, HOA, HMK, HL2⟩
                          · replace HL4 := Lib.hid (ifT rfl HL4.out)
                            go_quiet (first | (go_at_call 23; exact quiet_left (HC166.out _)))
                            generalize hW : World.drewN W152 _ = W169
                            have hd : Dr W152 W169 := ⟨_, hW.symm⟩
                            clear hW
                            try clear fb153 fb154 f160 f161 f162
                            replace HOA := Lib.hid (HOA.out.below (hd.below _))
                            replace HD := Lib.hid (HD.out.trans ((hd.below _).mono HD.out.size))
                            replace HMK := Lib.hid (HMK.out.nc (NC.of_below (hd.below _)))
                            clear hd
                            have fb170 := HP.bx HOA.out (List.Mem.tail _ (List.Mem.head _))
                            obtain ⟨y171, hy172, hm⟩ := obind HL4.out
                            replace HL4 := Lib.hid hm; clear hm
                            obtain ⟨b173, o174, ea175, _, f176, f177, f178⟩ := ReadsI.ix (HP.rd_I HOA.out (List.Mem.tail _ (List.Mem.tail _ (List.Mem.head _)))) hy172
                            cases ea175
                            try simp only [Nat.zero_add, Nat.add_zero, Int.toNat_natCast, Int.toNat_zero, Int.toNat_one] at f178
                            try rw [← HP.len_I HOA.out (List.Mem.tail _ (List.Mem.tail _ (List.Mem.head _)))] at f177
                            have HY180 := Lib.hid hy172; clear hy172
                            obtain ⟨y183, hy182, hm⟩ := obind HL4.out
                            replace HL4 := Lib.hid hm; clear hm
                            obtain ⟨f184, hy182⟩ := st_some hy182; subst hy182
                            obtain ⟨g190, ea, f187, ⟨ux189, f188⟩, hp, hb⟩ := HP.setI (x := (wrap64 (y171 + 1))) (its1 := [_, _]) HOA.out f184
                            cases ea
                            obtain ⟨q0, q1⟩ := f184
                            try rw [← HP.len_I HOA.out (List.Mem.tail _ (List.Mem.tail _ (List.Mem.head _)))] at q1
                            clear f188
                            have HP_ := Lib.hid hp; have HB_ := Lib.hid hb; clear hp hb
                            replace HMK := Lib.hid (HMK.out.nc (ncOf HP_.out))
                            go_wp2_with fail
                            have hp := HP_.out; have hb := HB_.out; clear HP_ HB_
                            generalize hW : World.setCell W169 _ _ = W181 at *
                            clear hW
                            try clear f187 q0 q1 fb170 f176 f177 f178
                            replace HOA := Lib.hid (show HP W181 w.heap.size [.fl (owX 39 (some ⟨W63.heap.size, 0, none⟩) (.int .u64 (((x97) : Nat) : Int))), .fl (owX 23 (some ⟨W52.heap.size, 0, none⟩) ((.slice (some ⟨g146, 0, none⟩) (y51).length cap56))), .fl (owI (.slice (some ⟨g146, 0, none⟩) (y51).length cap56) ((List.set x151 (Int.toNat y66) (wrap64 (y171 + 1))))), .fl (owM (.slice (some ⟨b82, o83, none⟩) (y43).length cap81) (y43))] from hp); clear hp
                            replace HD := Lib.hid (HD.out.trans hb); clear hb
                            go_wp2_with fail
                            go_roundg g4
                            case measure => omega
                            case rel => exact ⟨(List.set x151 (Int.toNat y66) (wrap64 (y171 + 1))), HD, HOA, HMK, HL4⟩
                    case stop_q194 => exact fun _ _ _ _ h _ => h.elim
                  · replace HL2 := Lib.hid (ifF hc64 HL2.out)
                    have hc64d := decide_eq_false hc64
                    have HK65 := Lib.hid hc64
                    obtain rfl := Option.some.inj HL2.out
                    have hm := HM.out; try dsimp only at hm
                    replace HM := Lib.hid hm; clear hm
                    have fb195 := HP.bx HOA.out (List.Mem.head _)
                    obtain rfl := Option.some.inj HM.out
                    go_wp2_with fail
                    try clear hc64 hc64d fb195
                    refine leave_marks (B := w.heap.size) _ _ HMK.out (fun W' => results_tmp2 rfl _ _ _) (fun W' hk => ⟨_, rfl, (HOA.out.keepC hk).get (List.Mem.tail _ (List.Mem.head _)), hk.below HD.out (Nat.le_refl _) (Nat.le_refl _)⟩)
  · rw [errV_pos _ hz4] at HC2; replace HC2 := Lib.hid HC2
    go_wp2_with fail
    refine HC2.out.mono ?_; rintro e W6 ⟨rfl, hd⟩
    replace HOA := Lib.hid (HOA.out.below hd)
    replace HD := Lib.hid (HD.out.trans (hd.mono HD.out.size))
    replace HMK := Lib.hid (HMK.out.nc (NC.of_below hd))
    clear hd
    have HZ7 := Lib.hid hz4; clear hz4
    replace HM := Lib.hid (ifT (bne_iff_ne.2 HZ7.out) HM.out)
    obtain rfl := Option.some.inj HM.out
    go_wp2_with fail
    refine leave_marks (B := w.heap.size) _ _ HMK.out (fun W' => results_tmp2 rfl _ _ _) (fun W' hk => ⟨_, (by first | (rw [errV_pos _ HZ7.out]; rfl) | rw [errV_pos _ HZ7.out]), World.ownsRow_nil _ _ _ _, hk.below HD.out (Nat.le_refl _) (Nat.le_refl _)⟩)
end Go.Proofs.Ytoiidngnlhhanaa
