import Derived.Test.YtlecmgdkoanghaaDoorGR
import Derived.Test.YtlecmgdkoanghaaDoorSlc
import Derived.Test.YtlecmgdkoanghaaDoorRep
import Derived.Test.YtlecmgdkoanghaaDoorBox
import Derived.Test.YtlecmgdkoanghaaDoorQB
set_option linter.all false
set_option maxRecDepth 100000
namespace Go.Proofs.YtlecmgdkoanghaaDoor
open Go.RowKit
attribute [local go_sem] Oper.semAt_some
def color_Last_L2 (F : Nat) (v6 : List Nat) (v9 : Nat) : List Nat → (Int) → Option (Int)
  | [], v10 => some (v10)
  | x :: xs, v10 => ((if v10 < 0 then some true else (ix v6 (x : Int)).bind fun y5 => (sAnd y5 v9).bind fun y6 => (sLen (y6)).bind fun y7 => (ix v6 v10).bind fun y8 => (sAnd y8 v9).bind fun y9 => (sLen (y9)).bind fun y10 => if y7 < y10 then some true else some false).bind fun b4 => if b4 = true then color_Last_L2 F v6 v9 xs ((x : Int)) else color_Last_L2 F v6 v9 xs (v10))
theorem color_Last_L2_n (F : Nat) (v6 : List Nat) (v9 : Nat) (v10 : Int) : color_Last_L2 F v6 v9 [] v10 = some (v10) := by rw [color_Last_L2]
theorem color_Last_L2_c (F : Nat) (v6 : List Nat) (v9 : Nat) (v10 : Int) (x : Nat) (xs : List Nat) : color_Last_L2 F v6 v9 (x :: xs) v10 = (((if v10 < 0 then some true else (ix v6 (x : Int)).bind fun y5 => (sAnd y5 v9).bind fun y6 => (sLen (y6)).bind fun y7 => (ix v6 v10).bind fun y8 => (sAnd y8 v9).bind fun y9 => (sLen (y9)).bind fun y10 => if y7 < y10 then some true else some false).bind fun b4 => if b4 = true then color_Last_L2 F v6 v9 xs ((x : Int)) else color_Last_L2 F v6 v9 xs (v10))) := by rw [color_Last_L2]
def color_Last_L1 (F : Nat) (v6 : List Nat) : Nat → (List Int) → (Int) → (Nat) → Option (List Int × Int × Nat)
  | 0, _, _, _ => none
  | g+1, v7, v8, v9 => if (v9 != 0) = true then (sEach v9).bind fun y12 => (color_Last_L2 F (v6) (v9) y12 ((-1))).bind fun o11 => (ix v6 o11).bind fun y13 => (sAnd y13 v9).bind fun y14 => (sLen (y14)).bind fun y15 => (appL [o11] v7).bind fun y16 => (sWithout (v9) (o11)).bind fun y17 => color_Last_L1 F v6 g (y16) ((gmax v8 y15)) (y17) else some (v7, v8, v9)
theorem color_Last_L1_0 (F : Nat) (v6 : List Nat) (v7 : List Int) (v8 : Int) (v9 : Nat) : color_Last_L1 F v6 0 v7 v8 v9 = none := by rw [color_Last_L1]
theorem color_Last_L1_s (F g : Nat) (v6 : List Nat) (v7 : List Int) (v8 : Int) (v9 : Nat) : color_Last_L1 F v6 (g+1) v7 v8 v9 = (if (v9 != 0) = true then (sEach v9).bind fun y12 => (color_Last_L2 F (v6) (v9) y12 ((-1))).bind fun o11 => (ix v6 o11).bind fun y13 => (sAnd y13 v9).bind fun y14 => (sLen (y14)).bind fun y15 => (appL [o11] v7).bind fun y16 => (sWithout (v9) (o11)).bind fun y17 => color_Last_L1 F v6 g (y16) ((gmax v8 y15)) (y17) else some (v7, v8, v9)) := by rw [color_Last_L1]
def color_Last (F : Nat) (v0 : Int) (v1 : List (Int × Int)) : Option (List Int × Int × Int) := (mCheck (v0) (v1)).bind fun y1 => (if (y1 != 0) = true then some (([], 0, y1)) else (mBeside (v0) (v1)).bind fun y2 => (sBelow (v0)).bind fun y3 => (color_Last_L1 F (y2) F ([]) (0) (y3)).bind fun o18 => some ((o18.1, o18.2.1, 0)))
set_option maxRecDepth 100000 in
set_option maxHeartbeats 4000000 in
theorem color_Last_ok {F : Nat} {v0 : Int} {v1 : List (Int × Int)} {A1 : Option Addr} {r : List Int × Int × Int} (w : World) (cap1 : Nat) (hr1 : ReadsL w w.heap.size A1 v1) (h : color_Last F v0 v1 = some r) :
    Calls Tryd.prog 9 #[.int .i64 v0, .slice A1 v1.length cap1] w (PostG (fun v => (.tuple #[v, (.int .i64 r.2.1), (errV 51 r.2.2)])) (fun v => owI v r.1) w.heap.size w) := by
  have HR1 := Lib.hid hr1; clear hr1
  have HD := Lib.hid (Below.refl w.heap.size w)
  have HOA := Lib.hid (HP.nil (W := w) (B := w.heap.size))
  unfold color_Last at h
  have HM := Lib.hid h; clear h
  have HMK := Lib.hid (Marks.nil w.heap.size w)
  refine (callsIn_wide (n := 5)).1 ?_
  refine callsIn_of_wp_marks Tryd.func9 rfl trivial ?_ rfl
  simp only [Tryd.ntmps9, List.size_toArray, List.length_cons, List.length_nil, Nat.reduceAdd, Nat.reduceSub, Array.replicate_succ, Array.replicate_zero, List.push_toArray, List.append_toArray, List.nil_append, List.cons_append]
  refine wpIn_wide.2 ?_
  obtain ⟨y3, hy1, hm⟩ := obind HM.out
  replace HM := Lib.hid hm; clear hm
  have HC2 := mCheck_ok w cap1 (rdL HD.out HR1.out) hy1
  clear hy1
  by_cases hz4 : y3 = 0
  · subst hz4
    rw [errV_zero] at HC2; replace HC2 := Lib.hid HC2
    go_wp2_with fail
    refine HC2.out.mono ?_; rintro e W5 ⟨rfl, hd⟩
    replace HOA := Lib.hid (HOA.out.below hd)
    replace HD := Lib.hid (HD.out.trans (hd.mono HD.out.size))
    replace HMK := Lib.hid (HMK.out.nc (NC.of_below hd))
    clear hd
    replace HM := Lib.hid (ifF (by decide) HM.out)
    obtain ⟨y10, hy8, hm⟩ := obind HM.out
    replace HM := Lib.hid hm; clear hm
    have HC9 := mBeside_ok W5 cap1 (rdL HD.out HR1.out) hy8
    clear hy8
    replace HC9 := Lib.hid HC9
    go_wp2_with fail
    refine HC9.out.mono ?_; rintro e W11 ⟨V12, rfl, ho, hd⟩
    replace HOA := Lib.hid (HOA.out.call hd HD.out.size ho); clear ho
    replace HD := Lib.hid (HD.out.trans (hd.mono HD.out.size))
    replace HMK := Lib.hid (HMK.out.nc (NC.of_below hd))
    clear hd
    obtain ⟨A14, cap15, he, _⟩ := HP.open_M HOA.out (List.Mem.head _)
    subst he
    go_upto_region 5 with (fail)
    have hd : Below W11.heap.size W11 (W11.alloc (.cells #[(.slice A14 (y10).length cap15)] 48)) := (Below.refl _ _).alloc (Nat.le_refl _) _
    have ho := owX_ok W11 48 ((.slice A14 (y10).length cap15))
    generalize hW : World.alloc W11 _ = W16 at *
    clear hW
    replace HOA := Lib.hid (HOA.out.call hd HD.out.size ho); clear ho
    replace HD := Lib.hid (HD.out.trans (hd.mono HD.out.size))
    replace HMK := Lib.hid (HMK.out.nc (NC.of_below hd))
    clear hd
    replace HOA := Lib.hid (show HP _ _ (.fl (owI (.slice none 0 0) ([])) :: _) from HOA.out.pushNil _ _)
    obtain ⟨y21, hy19, hm⟩ := obind HM.out
    replace HM := Lib.hid hm; clear hm
    have HC20 := sBelow_ok W16  hy19
    clear hy19
    replace HC20 := Lib.hid HC20
    go_wp2_with fail
    refine HC20.out.mono ?_; rintro e w' ⟨rfl, rfl⟩
    go_upto_region 8 with (fail)
    have hd : Below W16.heap.size W16 (W16.alloc (.cells #[.int .u64 (((y21) : Nat) : Int)] 54)) := (Below.refl _ _).alloc (Nat.le_refl _) _
    have ho := owX_ok W16 54 (.int .u64 (((y21) : Nat) : Int))
    generalize hW : World.alloc W16 _ = W22 at *
    clear hW
    replace HOA := Lib.hid (HOA.out.call hd HD.out.size ho); clear ho
    replace HD := Lib.hid (HD.out.trans (hd.mono HD.out.size))
    replace HMK := Lib.hid (HMK.out.nc (NC.of_below hd))
    clear hd
    go_wp2_with fail
    obtain ⟨o24, ho, hm⟩ := obind HM.out
    replace HM := Lib.hid hm; have HL1 := Lib.hid ho; clear hm ho
    refine wp_loop_marks _ [false, false, false, false, false, false, false, false, false, true, true, true, true, true, false, false, false, false, false, false, false, false, false, false, false, true, true, true, true, false, true, true, true, true, true, true, true, true, true, true, true, true, true, true, true, true, true, true, true, true, true, true, true, true, true, true, true, true, true, true, true, true, true, true, true, true, true, false, false] (fun gg fk1 dsk1 wr => ∃ (x25 : List Int) (x26 : Int) (x27 : Nat) (V28 : Value) (g29 : Nat), (fk1 9) = V28 ∧ (fk1 10) = .int .i64 x26 ∧ (fk1 11) = .pointer (some ⟨g29, 0, none⟩) ∧ Hid (Below w.heap.size w wr) ∧ Hid (HP wr w.heap.size [.fl (owX 54 (some ⟨g29, 0, none⟩) (.int .u64 (((x27) : Nat) : Int))), .fl (owI V28 (x25)), .fl (owX 48 (some ⟨W11.heap.size, 0, none⟩) ((.slice A14 (y10).length cap15))), .fl (owM (.slice A14 (y10).length cap15) (y10))]) ∧ Hid (Marks w.heap.size dsk1 wr) ∧ Hid (color_Last_L1 F (y10) gg x25 x26 x27 = some o24)) F _ (by simp only [agreeB, and_self, true_and]) ⟨[], 0, y21, (.slice none 0 0), _, rfl, rfl, rfl, HD, HOA, HMK, HL1⟩ ?round
    case round =>
      intro gk fk1 dsk1 wr hrel _ _ hJ1 _
      obtain ⟨x25, x26, x27, V28, g29, hf30, hf31, hf32, HD, HOA, HMK, HL1⟩ := hrel
      simp only [setB, Nat.reduceAdd, hf30, hf31, hf32]
      clear hf30 hf31 hf32
      rename World => W33
      cases gk with
      | zero => exact absurd ((color_Last_L1_0 ..).symm.trans HL1.out) (by intro h; cases h)
      | succ g1 =>
        replace HL1 := Lib.hid ((color_Last_L1_s ..).symm.trans HL1.out)
        have fb34 := HP.bx HOA.out (List.Mem.head _)
        rcases Bool.eq_false_or_eq_true (x27 != 0) with hc35 | hc35
        · replace HL1 := Lib.hid (ifT hc35 HL1.out)
          have HK36 := Lib.hid hc35
          go_upto_region 10 with (fail)
          have hd : Below W33.heap.size W33 (W33.alloc (.cells #[.int .i64 ((-1))] 3)) := (Below.refl _ _).alloc (Nat.le_refl _) _
          have ho := owX_ok W33 3 (.int .i64 ((-1)))
          generalize hW : World.alloc W33 _ = W37 at *
          clear hW
          try clear fb34 hc35
          replace HOA := Lib.hid (HOA.out.call hd HD.out.size ho); clear ho
          replace HD := Lib.hid (HD.out.trans (hd.mono HD.out.size))
          replace HMK := Lib.hid (HMK.out.nc (NC.of_below hd))
          clear hd
          have fb39 := HP.bx HOA.out (List.Mem.tail _ (List.Mem.head _))
          obtain ⟨y40, hy41, hm⟩ := obind HL1.out
          replace HL1 := Lib.hid hm; clear hm
          obtain ⟨hlt, hml⟩ := s_of hy41
          have HLT43 := Lib.hid hlt; have HML44 := Lib.hid hml; clear hlt hml hy41
          obtain ⟨o42, ho, hm⟩ := obind HL1.out
          replace HL1 := Lib.hid hm; have HL2 := Lib.hid ho; clear hm ho
          go_wp2_with fail
          refine (each_any _ _).mono ?_; rintro e w' ⟨rfl, rfl⟩
          go_wp2_with fail
          try clear fb39
          have hd : Below W37.heap.size W37 (W37.alloc (.cells #[.int .u64 (((x27) : Nat) : Int)] 54)) := (Below.refl _ _).alloc (Nat.le_refl _) _
          have ho := owX_ok W37 54 (.int .u64 (((x27) : Nat) : Int))
          generalize hW : World.alloc W37 _ = W45 at *
          clear hW
          replace HOA := Lib.hid (HOA.out.call hd HD.out.size ho); clear ho
          replace HD := Lib.hid (HD.out.trans (hd.mono HD.out.size))
          replace HMK := Lib.hid (HMK.out.nc (NC.of_below hd))
          clear hd
          have HDk48 := HD
          refine (wpIn_wide (n := 5)).1 (wp_each2 (m := x27) (Bs := W37.heap.size) (by omega) HLT43.out rfl (HP.bx HOA.out (List.Mem.head _)) rfl (fun rest W => ∃ (x47 : Int), Hid (Below w.heap.size w W) ∧ Hid (NC W45 W) ∧ Hid (HP W w.heap.size [.fl (owX 54 (some ⟨W37.heap.size, 0, none⟩) (.int .u64 (((x27) : Nat) : Int))), .fl (owX 3 (some ⟨W33.heap.size, 0, none⟩) (.int .i64 (x47))), .fl (owX 54 (some ⟨g29, 0, none⟩) (.int .u64 (((x27) : Nat) : Int))), .fl (owI V28 (x25)), .fl (owX 48 (some ⟨W11.heap.size, 0, none⟩) ((.slice A14 (y10).length cap15))), .fl (owM (.slice A14 (y10).length cap15) (y10))]) ∧ Hid (color_Last_L2 F (y10) (x27) rest x47 = some o42)) (fun _ _ => False) ?hI_q164 ?hIx_q164 ⟨(-1), HD, Lib.hid (NC.refl _), HOA, by rw [HML44.out]; exact HL2⟩ ?a1_q164 ?assign_q164 ?body_q164 ?done_q164 ?stop_q164)
          case hI_q164 =>
            rintro rest W W' ⟨x47, hd, hn, hh, hl⟩ hk
            exact ⟨x47, Lib.hid (hk.below hd.out HDk48.out.size (Nat.le_refl _)), Lib.hid (hn.out.keepC hk (Nat.le_refl _)), Lib.hid (hh.out.keepC hk), hl⟩
          case hIx_q164 => exact fun _ _ _ h _ => h
          case assign_q164 =>
            intro l x W K hK
            gi_wp2
            exact hK
          case body_q164 =>
            rintro l49 xn50 rest W51 hx ⟨x47, HD, HN, HOA, HL2⟩ _ _ _ hJ53 hJx54 _ hQ52
            replace HL2 := Lib.hid ((color_Last_L2_c ..).symm.trans HL2.out)
            have HNB := Lib.hid (NC.refl W51)
            try gi_wp2_with fail
            obtain ⟨b55, hb, hm⟩ := obind HL2.out
            replace HL2 := Lib.hid hm; have HB56 := Lib.hid hb; clear hm hb
            have fb57 := HP.bx HOA.out (List.Mem.tail _ (List.Mem.head _))
            by_cases hc58 : x47 < 0
            · replace HB56 := Lib.hid (ifT hc58 HB56.out)
              have HK59 := Lib.hid hc58
              obtain rfl := Option.some.inj HB56.out
              replace HL2 := Lib.hid (ifT (by first | rfl | trivial) HL2.out)
              try (have fb57_r := cell_regrown fb57)
              try (have hc58_r := cell_regrown hc58)
              refine wpIn_region_quiet_openH (open_round l49) (by kernel_rfl) (by kernel_rfl) (by kernel_rfl) ?_
              repeat (refine wpQH_step (fun K hK => ?_); go_simp; first | (refine hK _ ?_; clear hK K) | (apply Exists.intro; refine ⟨fun _ => ?_, hK _ ?_⟩; (fail); clear hK K))
              refine wpQH_nil ?_
              intro _ hw_
              obtain ⟨⟨dq, osq⟩, hw_⟩ := hw_
              subst hw_
              have hd := below_regrown W51 dq osq
              generalize Go.Sort.grow (redrawn W51 _) _ = W60 at *
              try clear fb57_r hc58_r
              try clear fb57 hc58
              replace HOA := Lib.hid (HOA.out.below hd)
              replace HD := Lib.hid (HD.out.trans (hd.mono HD.out.size))
              replace HNB := Lib.hid (HNB.out.trans (NC.of_below hd))
              clear hd
              obtain ⟨q0, q1, hp, hb⟩ := HP.setBx (its1 := [_]) HOA.out (.int .i64 ((xn50 : Int)))
              have HP_ := Lib.hid hp; have HB_ := Lib.hid hb; clear hp hb
              gi_wp2_with fail
              have hp := HP_.out; have hb := HB_.out; clear HP_ HB_
              replace HNB := Lib.hid (HNB.out.trans (NC.setCell W60 ⟨W33.heap.size, 0, none⟩ (.int .i64 ((xn50 : Int)))))
              generalize hW : World.setCell W60 _ _ = W61 at *
              clear hW
              try clear q0 q1
              replace HOA := Lib.hid (show HP W61 w.heap.size [.fl (owX 54 (some ⟨W37.heap.size, 0, none⟩) (.int .u64 (((x27) : Nat) : Int))), .fl (owX 3 (some ⟨W33.heap.size, 0, none⟩) (.int .i64 ((xn50 : Int)))), .fl (owX 54 (some ⟨g29, 0, none⟩) (.int .u64 (((x27) : Nat) : Int))), .fl (owI V28 (x25)), .fl (owX 48 (some ⟨W11.heap.size, 0, none⟩) ((.slice A14 (y10).length cap15))), .fl (owM (.slice A14 (y10).length cap15) (y10))] from hp); clear hp
              replace HD := Lib.hid (HD.out.trans hb); clear hb
              gi_wp2_with fail
              exact ⟨HNB.out, HP.bx HOA.out (List.Mem.head _), hJ53 _ ⟨(xn50 : Int), HD, Lib.hid (HN.out.trans HNB.out), HOA, HL2⟩⟩
            · replace HB56 := Lib.hid (ifF hc58 HB56.out)
              have hc58d := decide_eq_false hc58
              have HK59 := Lib.hid hc58
              have fb62 := HP.bx HOA.out (List.Mem.tail _ (List.Mem.tail _ (List.Mem.tail _ (List.Mem.tail _ (List.Mem.head _)))))
              obtain ⟨y63, hy64, hm⟩ := obind HB56.out
              replace HB56 := Lib.hid hm; clear hm
              obtain ⟨b65, o66, ea67, _, f68, f69, f70⟩ := ReadsM.ix (HP.rd_M HOA.out (List.Mem.tail _ (List.Mem.tail _ (List.Mem.tail _ (List.Mem.tail _ (List.Mem.tail _ (List.Mem.head _))))))) hy64
              cases ea67
              try simp only [Nat.zero_add, Nat.add_zero, Int.toNat_natCast, Int.toNat_zero, Int.toNat_one] at f70
              try rw [← HP.len_M HOA.out (List.Mem.tail _ (List.Mem.tail _ (List.Mem.tail _ (List.Mem.tail _ (List.Mem.tail _ (List.Mem.head _))))))] at f69
              have HY72 := Lib.hid hy64; clear hy64
              have fb73 := HP.bx HOA.out (List.Mem.tail _ (List.Mem.tail _ (List.Mem.head _)))
              obtain ⟨y74, hy75, hm⟩ := obind HB56.out
              replace HB56 := Lib.hid hm; clear hm
              obtain ⟨f76, hy75⟩ := sAnd_some hy75; subst hy75
              obtain ⟨y79, hy77, hm⟩ := obind HB56.out
              replace HB56 := Lib.hid hm; clear hm
              have HC78 := Lib.hid (fun d_ os_ => Calls.regrown_of (v := .int .i64 y79) ((sLen_ok (Go.Sort.grow (redrawn W51 d_) os_)  hy77))); clear hy77
              obtain ⟨y80, hy81, hm⟩ := obind HB56.out
              replace HB56 := Lib.hid hm; clear hm
              obtain ⟨b82, o83, ea84, _, f85, f86, f87⟩ := ReadsM.ix (HP.rd_M HOA.out (List.Mem.tail _ (List.Mem.tail _ (List.Mem.tail _ (List.Mem.tail _ (List.Mem.tail _ (List.Mem.head _))))))) hy81
              cases ea84
              try simp only [Nat.zero_add, Nat.add_zero, Int.toNat_natCast, Int.toNat_zero, Int.toNat_one] at f87
              try rw [← HP.len_M HOA.out (List.Mem.tail _ (List.Mem.tail _ (List.Mem.tail _ (List.Mem.tail _ (List.Mem.tail _ (List.Mem.head _))))))] at f86
              have HY89 := Lib.hid hy81; clear hy81
              obtain ⟨y90, hy91, hm⟩ := obind HB56.out
              replace HB56 := Lib.hid hm; clear hm
              obtain ⟨f92, hy91⟩ := sAnd_some hy91; subst hy91
              obtain ⟨y95, hy93, hm⟩ := obind HB56.out
              replace HB56 := Lib.hid hm; clear hm
              have HC94 := Lib.hid (fun d_ os_ => Calls.regrown_of (v := .int .i64 y95) ((sLen_ok (Go.Sort.grow (redrawn W51 d_) os_)  hy93))); clear hy93
              by_cases hc96 : y79 < y95
              · replace HB56 := Lib.hid (ifT hc96 HB56.out)
                have HK97 := Lib.hid hc96
                obtain rfl := Option.some.inj HB56.out
                replace HL2 := Lib.hid (ifT (by first | rfl | trivial) HL2.out)
                try (have fb57_r := cell_regrown fb57)
                try (have hc58_r := cell_regrown hc58)
                try (have hc58d_r := cell_regrown hc58d)
                try (have fb62_r := cell_regrown fb62)
                try (have f68_r := cell_regrown f68)
                try (have f69_r := cell_regrown f69)
                try (have f70_r := cell_regrown f70)
                try (have fb73_r := cell_regrown fb73)
                try (have f76_r := cell_regrown f76)
                try (have f85_r := cell_regrown f85)
                try (have f86_r := cell_regrown f86)
                try (have f87_r := cell_regrown f87)
                try (have f92_r := cell_regrown f92)
                try (have hc96_r := cell_regrown hc96)
                refine wpIn_region_quiet_openH (open_round l49) (by kernel_rfl) (by kernel_rfl) (by kernel_rfl) ?_
                repeat (refine wpQH_step (fun K hK => ?_); go_simp; first | (refine hK _ ?_; clear hK K) | (apply Exists.intro; refine ⟨fun _ => ?_, hK _ ?_⟩; (first | (go_at_call 25; with_reducible exact (HC78.out _ _)) | (go_at_call 25; with_reducible exact (HC94.out _ _))); clear hK K))
                refine wpQH_nil ?_
                intro _ hw_
                obtain ⟨⟨dq, osq⟩, hw_⟩ := hw_
                subst hw_
                have hd := below_regrown W51 dq osq
                generalize Go.Sort.grow (redrawn W51 _) _ = W98 at *
                try clear fb57_r hc58_r hc58d_r fb62_r f68_r f69_r f70_r fb73_r f76_r f85_r f86_r f87_r f92_r hc96_r
                try clear fb57 hc58 hc58d fb62 f68 f69 f70 fb73 f76 f85 f86 f87 f92 hc96
                replace HOA := Lib.hid (HOA.out.below hd)
                replace HD := Lib.hid (HD.out.trans (hd.mono HD.out.size))
                replace HNB := Lib.hid (HNB.out.trans (NC.of_below hd))
                clear hd
                obtain ⟨q0, q1, hp, hb⟩ := HP.setBx (its1 := [_]) HOA.out (.int .i64 ((xn50 : Int)))
                have HP_ := Lib.hid hp; have HB_ := Lib.hid hb; clear hp hb
                gi_wp2_with fail
                have hp := HP_.out; have hb := HB_.out; clear HP_ HB_
                replace HNB := Lib.hid (HNB.out.trans (NC.setCell W98 ⟨W33.heap.size, 0, none⟩ (.int .i64 ((xn50 : Int)))))
                generalize hW : World.setCell W98 _ _ = W99 at *
                clear hW
                try clear q0 q1
                replace HOA := Lib.hid (show HP W99 w.heap.size [.fl (owX 54 (some ⟨W37.heap.size, 0, none⟩) (.int .u64 (((x27) : Nat) : Int))), .fl (owX 3 (some ⟨W33.heap.size, 0, none⟩) (.int .i64 ((xn50 : Int)))), .fl (owX 54 (some ⟨g29, 0, none⟩) (.int .u64 (((x27) : Nat) : Int))), .fl (owI V28 (x25)), .fl (owX 48 (some ⟨W11.heap.size, 0, none⟩) ((.slice (some ⟨b65, o66, none⟩) (y10).length cap15))), .fl (owM (.slice (some ⟨b65, o66, none⟩) (y10).length cap15) (y10))] from hp); clear hp
                replace HD := Lib.hid (HD.out.trans hb); clear hb
                gi_wp2_with fail
                exact ⟨HNB.out, HP.bx HOA.out (List.Mem.head _), hJ53 _ ⟨(xn50 : Int), HD, Lib.hid (HN.out.trans HNB.out), HOA, HL2⟩⟩
              · replace HB56 := Lib.hid (ifF hc96 HB56.out)
                have hc96d := decide_eq_false hc96
                have HK97 := Lib.hid hc96
                obtain rfl := Option.some.inj HB56.out
                replace HL2 := Lib.hid (ifF (by first | exact Bool.false_ne_true | exact not_false) HL2.out)
                try (have fb57_r := cell_regrown fb57)
                try (have hc58_r := cell_regrown hc58)
                try (have hc58d_r := cell_regrown hc58d)
                try (have fb62_r := cell_regrown fb62)
                try (have f68_r := cell_regrown f68)
                try (have f69_r := cell_regrown f69)
                try (have f70_r := cell_regrown f70)
                try (have fb73_r := cell_regrown fb73)
                try (have f76_r := cell_regrown f76)
                try (have f85_r := cell_regrown f85)
                try (have f86_r := cell_regrown f86)
                try (have f87_r := cell_regrown f87)
                try (have f92_r := cell_regrown f92)
                try (have hc96_r := cell_regrown hc96)
                try (have hc96d_r := cell_regrown hc96d)
                refine wpIn_region_quiet_openH (open_round l49) (by kernel_rfl) (by kernel_rfl) (by kernel_rfl) ?_
                repeat (refine wpQH_step (fun K hK => ?_); go_simp; first | (refine hK _ ?_; clear hK K) | (apply Exists.intro; refine ⟨fun _ => ?_, hK _ ?_⟩; (first | (go_at_call 25; with_reducible exact (HC78.out _ _)) | (go_at_call 25; with_reducible exact (HC94.out _ _))); clear hK K))
                refine wpQH_nil ?_
                intro _ hw_
                obtain ⟨⟨dq, osq⟩, hw_⟩ := hw_
                subst hw_
                have hd := below_regrown W51 dq osq
                generalize Go.Sort.grow (redrawn W51 _) _ = W100 at *
                try clear fb57_r hc58_r hc58d_r fb62_r f68_r f69_r f70_r fb73_r f76_r f85_r f86_r f87_r f92_r hc96_r hc96d_r
                try clear fb57 hc58 hc58d fb62 f68 f69 f70 fb73 f76 f85 f86 f87 f92 hc96 hc96d
                replace HOA := Lib.hid (HOA.out.below hd)
                replace HD := Lib.hid (HD.out.trans (hd.mono HD.out.size))
                replace HNB := Lib.hid (HNB.out.trans (NC.of_below hd))
                clear hd
                gi_wp2_with fail
                exact ⟨HNB.out, HP.bx HOA.out (List.Mem.head _), hJ53 _ ⟨x47, HD, Lib.hid (HN.out.trans HNB.out), HOA, HL2⟩⟩
          case done_q164 =>
            rintro D101 W102 hD ⟨x47, HD, HN, HOA, HL2⟩ hK
            have hov := Option.some.inj ((color_Last_L2_n ..).symm.trans HL2.out)
            replace HMK := Lib.hid (HMK.out.push HN.out hD HDk48.out.size hK); clear hK hD HN
            subst hov
            have hm := HL1.out; try dsimp only at hm
            replace HL1 := Lib.hid hm; clear hm
            try go_wp2_with fail
            have fb103 := HP.bx HOA.out (List.Mem.tail _ (List.Mem.head _))
            have fb104 := HP.bx HOA.out (List.Mem.tail _ (List.Mem.tail _ (List.Mem.tail _ (List.Mem.tail _ (List.Mem.head _)))))
            obtain ⟨y105, hy106, hm⟩ := obind HL1.out
            replace HL1 := Lib.hid hm; clear hm
            obtain ⟨b107, o108, ea109, _, f110, f111, f112⟩ := ReadsM.ix (HP.rd_M HOA.out (List.Mem.tail _ (List.Mem.tail _ (List.Mem.tail _ (List.Mem.tail _ (List.Mem.tail _ (List.Mem.head _))))))) hy106
            cases ea109
            try simp only [Nat.zero_add, Nat.add_zero, Int.toNat_natCast, Int.toNat_zero, Int.toNat_one] at f112
            try rw [← HP.len_M HOA.out (List.Mem.tail _ (List.Mem.tail _ (List.Mem.tail _ (List.Mem.tail _ (List.Mem.tail _ (List.Mem.head _))))))] at f111
            have HY114 := Lib.hid hy106; clear hy106
            have fb115 := HP.bx HOA.out (List.Mem.tail _ (List.Mem.tail _ (List.Mem.head _)))
            obtain ⟨y116, hy117, hm⟩ := obind HL1.out
            replace HL1 := Lib.hid hm; clear hm
            obtain ⟨f118, hy117⟩ := sAnd_some hy117; subst hy117
            obtain ⟨y121, hy119, hm⟩ := obind HL1.out
            replace HL1 := Lib.hid hm; clear hm
            have HC120 := Lib.hid (fun d_ os_ => Calls.regrown_of (v := .int .i64 y121) ((sLen_ok (Go.Sort.grow (redrawn W102 d_) os_)  hy119))); clear hy119
            by_cases hc122 : x26 < y121
            · replace HL1 := Lib.hid (by have q := HL1.out; (try simp only [show gmax x26 y121 = y121 from if_pos hc122] at q); exact q)
              have HK123 := Lib.hid hc122
              have hc122x : x26 < y121 := by first | exact hc122 | (simp only [i64w]; exact hc122)
              have hc122y : ¬ (y121 ≤ x26) := by first | exact Int.not_le.2 hc122 | (simp only [i64w]; exact Int.not_le.2 hc122)
              have hc122m : max (x26) (y121) = y121 := by omega
              try (have fb103_r := cell_regrown fb103)
              try (have fb104_r := cell_regrown fb104)
              try (have f110_r := cell_regrown f110)
              try (have f111_r := cell_regrown f111)
              try (have f112_r := cell_regrown f112)
              try (have fb115_r := cell_regrown fb115)
              try (have f118_r := cell_regrown f118)
              try (have hc122_r := cell_regrown hc122)
              try (have hc122x_r := cell_regrown hc122x)
              try (have hc122y_r := cell_regrown hc122y)
              try (have hc122m_r := cell_regrown hc122m)
              refine wp_region_quiet_belowH (by kernel_rfl) (by kernel_rfl) ?_
              repeat (refine wpQH_step (fun K hK => ?_); go_simp; first | (refine hK _ ?_; clear hK K) | (apply Exists.intro; refine ⟨fun _ => ?_, hK _ ?_⟩; (first | (go_at_call 25; exact (HC120.out _ _))); clear hK K))
              refine wpQH_nil ?_
              intro _ hw_
              obtain ⟨⟨dq, osq⟩, hw_⟩ := hw_
              subst hw_
              have hd := below_regrown W102 dq osq
              generalize Go.Sort.grow (redrawn W102 _) _ = W124 at *
              try clear fb103_r fb104_r f110_r f111_r f112_r fb115_r f118_r hc122_r hc122x_r hc122y_r hc122m_r
              try clear fb103 fb104 f110 f111 f112 fb115 f118 hc122 hc122x hc122y hc122m
              replace HOA := Lib.hid (HOA.out.below hd)
              replace HD := Lib.hid (HD.out.trans (hd.mono HD.out.size))
              replace HMK := Lib.hid (HMK.out.nc (NC.of_below hd))
              clear hd
              have fb125 := HP.bx HOA.out (List.Mem.tail _ (List.Mem.head _))
              have hd : Below W124.heap.size W124 (World.alloc W124 (.cells #[Value.int .i64 (x47)] 3)) := (Below.refl _ _).alloc (Nat.le_refl _) _
              have ho : (owI (.slice (some ⟨W124.heap.size, 0, none⟩) 1 1) [x47]).ok (World.alloc W124 (.cells #[Value.int .i64 (x47)] 3)) W124.heap.size := litI_ok W124 [x47] (by unfold maxLen; simp)
              replace HOA := Lib.hid (HOA.out.call hd HD.out.size ho); clear ho
              replace HD := Lib.hid (HD.out.trans (hd.mono HD.out.size))
              replace HMK := Lib.hid (HMK.out.nc (NC.of_below hd))
              clear hd
              obtain ⟨A128, cap129, he, _⟩ := HP.open_I HOA.out (List.Mem.tail _ (List.Mem.tail _ (List.Mem.tail _ (List.Mem.tail _ (List.Mem.head _)))))
              subst he
              obtain ⟨y130, hy131, hm⟩ := obind HL1.out
              replace HL1 := Lib.hid hm; clear hm
              obtain ⟨f132, hy131⟩ := appL_some hy131; subst hy131
              obtain ⟨V133, W134, hrun, hoa, hb, hn⟩ := run_appIs (World.alloc W124 (.cells #[Value.int .i64 (x47)] 3)) 23 23 Tryd.underlying23 (L1 := []) HOA.out (HP.rd_I HOA.out (List.Mem.tail _ (List.Mem.tail _ (List.Mem.tail _ (List.Mem.tail _ (List.Mem.head _)))))) f132 HD.out.size
              have HP_ := Lib.hid hoa; have HR_ := Lib.hid hrun; have HN_ := Lib.hid hn; have HOB := Lib.hid hb; clear hoa hrun hn hb
              go_upto_region 16 with (at_builtin; refine wp_appRun HR_.out rfl rfl rfl rfl ?_)
              have hp := HP_.out; clear HP_ HR_
              replace HMK := Lib.hid (HMK.out.nc (HN_.out))
              have hb := HOB.out; clear HOB HN_
              try clear fb125
              replace HOA := Lib.hid (show HP W134 w.heap.size [.fl (owI V133 (([x47] ++ x25))), .fl (owX 54 (some ⟨W37.heap.size, 0, none⟩) (.int .u64 (((x27) : Nat) : Int))), .fl (owX 3 (some ⟨W33.heap.size, 0, none⟩) (.int .i64 (x47))), .fl (owX 54 (some ⟨g29, 0, none⟩) (.int .u64 (((x27) : Nat) : Int))), .fl (owI (.slice A128 (x25).length cap129) (x25)), .fl (owX 48 (some ⟨W11.heap.size, 0, none⟩) ((.slice (some ⟨b107, o108, none⟩) (y10).length cap15))), .fl (owM (.slice (some ⟨b107, o108, none⟩) (y10).length cap15) (y10))] from hp); clear hp
              replace HD := Lib.hid (HD.out.trans hb); clear hb
              have fb135 := HP.bx HOA.out (List.Mem.tail _ (List.Mem.tail _ (List.Mem.tail _ (List.Mem.head _))))
              have fb136 := HP.bx HOA.out (List.Mem.tail _ (List.Mem.tail _ (List.Mem.head _)))
              obtain ⟨y139, hy137, hm⟩ := obind HL1.out
              replace HL1 := Lib.hid hm; clear hm
              have HC138 := sWithout_ok W134  hy137
              clear hy137
              replace HC138 := Lib.hid HC138
              go_wp2_with fail
              refine HC138.out.mono ?_; rintro e w' ⟨rfl, rfl⟩
              obtain ⟨q0, q1, hp, hb⟩ := HP.setBx (its1 := [_, _, _]) HOA.out (.int .u64 (((y139) : Nat) : Int))
              have HP_ := Lib.hid hp; have HB_ := Lib.hid hb; clear hp hb
              go_upto_region 17 with (fail)
              have hp := HP_.out; have hb := HB_.out; clear HP_ HB_
              replace HMK := Lib.hid (HMK.out.nc (NC.setCell W134 ⟨g29, 0, none⟩ (.int .u64 (((y139) : Nat) : Int))))
              generalize hW : World.setCell W134 _ _ = W140 at *
              clear hW
              try clear q0 q1 fb135 fb136
              replace HOA := Lib.hid (show HP W140 w.heap.size [.fl (owI V133 (([x47] ++ x25))), .fl (owX 54 (some ⟨W37.heap.size, 0, none⟩) (.int .u64 (((x27) : Nat) : Int))), .fl (owX 3 (some ⟨W33.heap.size, 0, none⟩) (.int .i64 (x47))), .fl (owX 54 (some ⟨g29, 0, none⟩) (.int .u64 (((y139) : Nat) : Int))), .fl (owI (.slice A128 (x25).length cap129) (x25)), .fl (owX 48 (some ⟨W11.heap.size, 0, none⟩) ((.slice (some ⟨b107, o108, none⟩) (y10).length cap15))), .fl (owM (.slice (some ⟨b107, o108, none⟩) (y10).length cap15) (y10))] from hp); clear hp
              replace HD := Lib.hid (HD.out.trans hb); clear hb
              have fb141 := HP.bx HOA.out (List.Mem.tail _ (List.Mem.tail _ (List.Mem.tail _ (List.Mem.head _))))
              go_wp2_with fail
              have hd : Below W140.heap.size W140 (W140.alloc (.cells #[.int .u64 (((y139) : Nat) : Int)] 54)) := (Below.refl _ _).alloc (Nat.le_refl _) _
              have ho := owX_ok W140 54 (.int .u64 (((y139) : Nat) : Int))
              generalize hW : World.alloc W140 _ = W142 at *
              clear hW
              try clear fb141
              replace HOA := Lib.hid (HOA.out.call hd HD.out.size ho); clear ho
              replace HD := Lib.hid (HD.out.trans (hd.mono HD.out.size))
              replace HMK := Lib.hid (HMK.out.nc (NC.of_below hd))
              clear hd
              replace HOA := Lib.hid (HOA.out.sub (.cons₂ _ (.cons₂ _ (.cons₂ _ (.cons₂ _ (.cons _ (.cons₂ _ (.cons₂ _ (.cons₂ _ .slnil)))))))))
              go_wp2_with fail
              replace HOA := Lib.hid (HOA.out.sub (.cons₂ _ (.cons₂ _ (.cons _ (.cons _ (.cons _ (.cons₂ _ (.cons₂ _ .slnil))))))))
              refine Handed.intro g1 (by omega) ?_
              refine hJ1 _ _ _ ⟨by simp only [agreeB, and_self, true_and], ([x47] ++ x25), y121, y139, V133, _, rfl, rfl, rfl, HD, HOA, HMK, HL1⟩
            · replace HL1 := Lib.hid (by have q := HL1.out; (try simp only [show gmax x26 y121 = x26 from if_neg hc122] at q); exact q)
              have HK123 := Lib.hid hc122
              have hc122x : ¬ (x26 < y121) := by first | exact hc122 | (simp only [i64w]; exact hc122)
              have hc122y : y121 ≤ x26 := by first | exact Int.not_lt.1 hc122 | (simp only [i64w]; exact Int.not_lt.1 hc122)
              have hc122m : max (x26) (y121) = x26 := by omega
              try (have fb103_r := cell_regrown fb103)
              try (have fb104_r := cell_regrown fb104)
              try (have f110_r := cell_regrown f110)
              try (have f111_r := cell_regrown f111)
              try (have f112_r := cell_regrown f112)
              try (have fb115_r := cell_regrown fb115)
              try (have f118_r := cell_regrown f118)
              try (have hc122_r := cell_regrown hc122)
              try (have hc122x_r := cell_regrown hc122x)
              try (have hc122y_r := cell_regrown hc122y)
              try (have hc122m_r := cell_regrown hc122m)
              refine wp_region_quiet_belowH (by kernel_rfl) (by kernel_rfl) ?_
              repeat (refine wpQH_step (fun K hK => ?_); go_simp; first | (refine hK _ ?_; clear hK K) | (apply Exists.intro; refine ⟨fun _ => ?_, hK _ ?_⟩; (first | (go_at_call 25; exact (HC120.out _ _))); clear hK K))
              refine wpQH_nil ?_
              intro _ hw_
              obtain ⟨⟨dq, osq⟩, hw_⟩ := hw_
              subst hw_
              have hd := below_regrown W102 dq osq
              generalize Go.Sort.grow (redrawn W102 _) _ = W144 at *
              try clear fb103_r fb104_r f110_r f111_r f112_r fb115_r f118_r hc122_r hc122x_r hc122y_r hc122m_r
              try clear fb103 fb104 f110 f111 f112 fb115 f118 hc122 hc122x hc122y hc122m
              replace HOA := Lib.hid (HOA.out.below hd)
              replace HD := Lib.hid (HD.out.trans (hd.mono HD.out.size))
              replace HMK := Lib.hid (HMK.out.nc (NC.of_below hd))
              clear hd
              have fb145 := HP.bx HOA.out (List.Mem.tail _ (List.Mem.head _))
              have hd : Below W144.heap.size W144 (World.alloc W144 (.cells #[Value.int .i64 (x47)] 3)) := (Below.refl _ _).alloc (Nat.le_refl _) _
              have ho : (owI (.slice (some ⟨W144.heap.size, 0, none⟩) 1 1) [x47]).ok (World.alloc W144 (.cells #[Value.int .i64 (x47)] 3)) W144.heap.size := litI_ok W144 [x47] (by unfold maxLen; simp)
              replace HOA := Lib.hid (HOA.out.call hd HD.out.size ho); clear ho
              replace HD := Lib.hid (HD.out.trans (hd.mono HD.out.size))
              replace HMK := Lib.hid (HMK.out.nc (NC.of_below hd))
              clear hd
              obtain ⟨A148, cap149, he, _⟩ := HP.open_I HOA.out (List.Mem.tail _ (List.Mem.tail _ (List.Mem.tail _ (List.Mem.tail _ (List.Mem.head _)))))
              subst he
              obtain ⟨y150, hy151, hm⟩ := obind HL1.out
              replace HL1 := Lib.hid hm; clear hm
              obtain ⟨f152, hy151⟩ := appL_some hy151; subst hy151
              obtain ⟨V153, W154, hrun, hoa, hb, hn⟩ := run_appIs (World.alloc W144 (.cells #[Value.int .i64 (x47)] 3)) 23 23 Tryd.underlying23 (L1 := []) HOA.out (HP.rd_I HOA.out (List.Mem.tail _ (List.Mem.tail _ (List.Mem.tail _ (List.Mem.tail _ (List.Mem.head _)))))) f152 HD.out.size
              have HP_ := Lib.hid hoa; have HR_ := Lib.hid hrun; have HN_ := Lib.hid hn; have HOB := Lib.hid hb; clear hoa hrun hn hb
              go_upto_region 16 with (at_builtin; refine wp_appRun HR_.out rfl rfl rfl rfl ?_)
              have hp := HP_.out; clear HP_ HR_
              replace HMK := Lib.hid (HMK.out.nc (HN_.out))
              have hb := HOB.out; clear HOB HN_
              try clear fb145
              replace HOA := Lib.hid (show HP W154 w.heap.size [.fl (owI V153 (([x47] ++ x25))), .fl (owX 54 (some ⟨W37.heap.size, 0, none⟩) (.int .u64 (((x27) : Nat) : Int))), .fl (owX 3 (some ⟨W33.heap.size, 0, none⟩) (.int .i64 (x47))), .fl (owX 54 (some ⟨g29, 0, none⟩) (.int .u64 (((x27) : Nat) : Int))), .fl (owI (.slice A148 (x25).length cap149) (x25)), .fl (owX 48 (some ⟨W11.heap.size, 0, none⟩) ((.slice (some ⟨b107, o108, none⟩) (y10).length cap15))), .fl (owM (.slice (some ⟨b107, o108, none⟩) (y10).length cap15) (y10))] from hp); clear hp
              replace HD := Lib.hid (HD.out.trans hb); clear hb
              have fb155 := HP.bx HOA.out (List.Mem.tail _ (List.Mem.tail _ (List.Mem.tail _ (List.Mem.head _))))
              have fb156 := HP.bx HOA.out (List.Mem.tail _ (List.Mem.tail _ (List.Mem.head _)))
              obtain ⟨y159, hy157, hm⟩ := obind HL1.out
              replace HL1 := Lib.hid hm; clear hm
              have HC158 := sWithout_ok W154  hy157
              clear hy157
              replace HC158 := Lib.hid HC158
              go_wp2_with fail
              refine HC158.out.mono ?_; rintro e w' ⟨rfl, rfl⟩
              obtain ⟨q0, q1, hp, hb⟩ := HP.setBx (its1 := [_, _, _]) HOA.out (.int .u64 (((y159) : Nat) : Int))
              have HP_ := Lib.hid hp; have HB_ := Lib.hid hb; clear hp hb
              go_upto_region 17 with (fail)
              have hp := HP_.out; have hb := HB_.out; clear HP_ HB_
              replace HMK := Lib.hid (HMK.out.nc (NC.setCell W154 ⟨g29, 0, none⟩ (.int .u64 (((y159) : Nat) : Int))))
              generalize hW : World.setCell W154 _ _ = W160 at *
              clear hW
              try clear q0 q1 fb155 fb156
              replace HOA := Lib.hid (show HP W160 w.heap.size [.fl (owI V153 (([x47] ++ x25))), .fl (owX 54 (some ⟨W37.heap.size, 0, none⟩) (.int .u64 (((x27) : Nat) : Int))), .fl (owX 3 (some ⟨W33.heap.size, 0, none⟩) (.int .i64 (x47))), .fl (owX 54 (some ⟨g29, 0, none⟩) (.int .u64 (((y159) : Nat) : Int))), .fl (owI (.slice A148 (x25).length cap149) (x25)), .fl (owX 48 (some ⟨W11.heap.size, 0, none⟩) ((.slice (some ⟨b107, o108, none⟩) (y10).length cap15))), .fl (owM (.slice (some ⟨b107, o108, none⟩) (y10).length cap15) (y10))] from hp); clear hp
              replace HD := Lib.hid (HD.out.trans hb); clear hb
              have fb161 := HP.bx HOA.out (List.Mem.tail _ (List.Mem.tail _ (List.Mem.tail _ (List.Mem.head _))))
              go_wp2_with fail
              have hd : Below W160.heap.size W160 (W160.alloc (.cells #[.int .u64 (((y159) : Nat) : Int)] 54)) := (Below.refl _ _).alloc (Nat.le_refl _) _
              have ho := owX_ok W160 54 (.int .u64 (((y159) : Nat) : Int))
              generalize hW : World.alloc W160 _ = W162 at *
              clear hW
              try clear fb161
              replace HOA := Lib.hid (HOA.out.call hd HD.out.size ho); clear ho
              replace HD := Lib.hid (HD.out.trans (hd.mono HD.out.size))
              replace HMK := Lib.hid (HMK.out.nc (NC.of_below hd))
              clear hd
              replace HOA := Lib.hid (HOA.out.sub (.cons₂ _ (.cons₂ _ (.cons₂ _ (.cons₂ _ (.cons _ (.cons₂ _ (.cons₂ _ (.cons₂ _ .slnil)))))))))
              go_wp2_with fail
              replace HOA := Lib.hid (HOA.out.sub (.cons₂ _ (.cons₂ _ (.cons _ (.cons _ (.cons _ (.cons₂ _ (.cons₂ _ .slnil))))))))
              refine Handed.intro g1 (by omega) ?_
              refine hJ1 _ _ _ ⟨by simp only [agreeB, and_self, true_and], ([x47] ++ x25), x26, y159, V153, _, rfl, rfl, rfl, HD, HOA, HMK, HL1⟩
          case stop_q164 => exact fun _ _ _ _ h _ => h.elim
        · replace HL1 := Lib.hid (ifF (bF hc35) HL1.out)
          have HK36 := Lib.hid hc35
          obtain rfl := Option.some.inj HL1.out
          have hm := HM.out; try dsimp only at hm
          replace HM := Lib.hid hm; clear hm
          obtain rfl := Option.some.inj HM.out
          go_wp2_with fail
          try clear fb34 hc35
          refine leave_marks (B := w.heap.size) _ _ HMK.out (fun W' => results_tmp3 rfl _ _ _) (fun W' hk => ⟨_, rfl, (HOA.out.keepC hk).get (List.Mem.tail _ (List.Mem.head _)), hk.below HD.out (Nat.le_refl _) (Nat.le_refl _)⟩)
  · rw [errV_pos _ hz4] at HC2; replace HC2 := Lib.hid HC2
    go_wp2_with fail
    refine HC2.out.mono ?_; rintro e W6 ⟨rfl, hd⟩
    replace HOA := Lib.hid (HOA.out.below hd)
    replace HD := Lib.hid (HD.out.trans (hd.mono HD.out.size))
    replace HMK := Lib.hid (HMK.out.nc (NC.of_below hd))
    clear hd
    have HZ7 := Lib.hid hz4; clear hz4
    replace HM := Lib.hid (ifT (bne_iff_ne.2 HZ7.out) HM.out)
    obtain rfl := Option.some.inj HM.out
    go_wp2_with fail
    refine leave_marks (B := w.heap.size) _ _ HMK.out (fun W' => results_tmp3 rfl _ _ _) (fun W' hk => ⟨_, (by first | (rw [errV_pos _ HZ7.out]; rfl) | rw [errV_pos _ HZ7.out]), World.ownsRow_nil _ _ _ _, hk.below HD.out (Nat.le_refl _) (Nat.le_refl _)⟩)
end Go.Proofs.YtlecmgdkoanghaaDoor
