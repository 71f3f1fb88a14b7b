import Derived.Test.YtoiidngnlhhanaaDoorW2
import Derived.Test.YtoiidngnlhhanaaDoorBox
import Derived.Test.YtoiidngnlhhanaaDoorErr
import Derived.Test.YtoiidngnlhhanaaDoorW4
set_option linter.all false
set_option maxRecDepth 100000
namespace Go.Proofs.YtoiidngnlhhanaaDoor
open Go.RowKit
attribute [local go_sem] Oper.semAt_some
def topo_Deep_L2 (F : Nat) (v9 : Int) : List Nat → (List Int) → Option (List Int)
  | [], v7 => some (v7)
  | x :: xs, v7 => (ix v7 (x : Int)).bind fun y5 => (ix v7 v9).bind fun y6 => (st v7 (x : Int) (gmax y5 (wrap64 (y6 + 1)))).bind fun y4 => topo_Deep_L2 F v9 xs (y4)
theorem topo_Deep_L2_n (F : Nat) (v9 : Int) (v7 : List Int) : topo_Deep_L2 F v9 [] v7 = some (v7) := by rw [topo_Deep_L2]
theorem topo_Deep_L2_c (F : Nat) (v9 : Int) (v7 : List Int) (x : Nat) (xs : List Nat) : topo_Deep_L2 F v9 (x :: xs) v7 = ((ix v7 (x : Int)).bind fun y5 => (ix v7 v9).bind fun y6 => (st v7 (x : Int) (gmax y5 (wrap64 (y6 + 1)))).bind fun y4 => topo_Deep_L2 F v9 xs (y4)) := by rw [topo_Deep_L2]
def topo_Deep_L1 (F : Nat) (v4 : List Int) (v6 : List Nat) : Nat → (Int) → (List Int) → Option (List Int)
  | 0, _, _ => none
  | g+1, j, v7 => if j < ((v4).length : Int) then (ix v4 j).bind fun y => (ix v6 y).bind fun y9 => (sEach y9).bind fun y8 => (topo_Deep_L2 F (y) y8 (v7)).bind fun o7 => topo_Deep_L1 F v4 v6 g (wrap64 (j + 1)) (o7) else some (v7)
theorem topo_Deep_L1_0 (F : Nat) (v4 : List Int) (v6 : List Nat) (v7 : List Int) (j : Int) : topo_Deep_L1 F v4 v6 0 j v7 = none := by rw [topo_Deep_L1]
theorem topo_Deep_L1_s (F g : Nat) (v4 : List Int) (v6 : List Nat) (v7 : List Int) (j : Int) : topo_Deep_L1 F v4 v6 (g+1) j v7 = (if j < ((v4).length : Int) then (ix v4 j).bind fun y => (ix v6 y).bind fun y9 => (sEach y9).bind fun y8 => (topo_Deep_L2 F (y) y8 (v7)).bind fun o7 => topo_Deep_L1 F v4 v6 g (wrap64 (j + 1)) (o7) else some (v7)) := by rw [topo_Deep_L1]
def topo_Deep (F : Nat) (v0 : Int) (v1 : List (Int × Int)) : Option (List Int × Int) := (topo_Order F (v0) (v1)).bind fun y1 => (if (y1.2 != 0) = true then some (([], y1.2)) else (mOut (v0) (v1)).bind fun y2 => (mkI v0).bind fun y3 => (topo_Deep_L1 F (y1.1) (y2) F (0) (y3)).bind fun o10 => some ((o10, 0)))
set_option maxRecDepth 100000 in
set_option maxHeartbeats 4000000 in
theorem topo_Deep_ok {F : Nat} {v0 : Int} {v1 : List (Int × Int)} {A1 : Option Addr} {r : List Int × Int} (w : World) (cap1 : Nat) (hr1 : ReadsL w w.heap.size A1 v1) (h : topo_Deep F v0 v1 = some r) :
    Calls Tryd.prog 29 #[.int .i64 v0, .slice A1 v1.length cap1] w (PostG (fun v => (.tuple #[v, (errV 55 r.2)])) (fun v => owI v r.1) w.heap.size w) := by
  have HR1 := Lib.hid hr1; clear hr1
  have HD := Lib.hid (Below.refl w.heap.size w)
  have HOA := Lib.hid (HP.nil (W := w) (B := w.heap.size))
  unfold topo_Deep at h
  have HM := Lib.hid h; clear h
  have HMK := Lib.hid (Marks.nil w.heap.size w)
  refine (callsIn_wide (n := 5)).1 ?_
  refine callsIn_of_wp_marks Tryd.func29 rfl trivial ?_ rfl
  simp only [Tryd.ntmps29, List.size_toArray, List.length_cons, List.length_nil, Nat.reduceAdd, Nat.reduceSub, Array.replicate_succ, Array.replicate_zero, List.push_toArray, List.append_toArray, List.nil_append, List.cons_append]
  refine wpIn_wide.2 ?_
  obtain ⟨⟨y3, y4⟩, hy1, hm⟩ := obind HM.out
  dsimp only at hm
  replace HM := Lib.hid hm; clear hm
  have HC2 := topo_Order_ok w cap1 (rdL HD.out HR1.out) hy1
  clear hy1
  by_cases hz5 : y4 = 0
  · subst hz5
    rw [errV_zero] at HC2; replace HC2 := Lib.hid HC2
    go_wp2_with fail
    refine HC2.out.mono ?_; rintro e W6 ⟨V7, rfl, ho, hd⟩
    replace HOA := Lib.hid (HOA.out.call hd HD.out.size ho); clear ho
    replace HD := Lib.hid (HD.out.trans (hd.mono HD.out.size))
    replace HMK := Lib.hid (HMK.out.nc (NC.of_below hd))
    clear hd
    replace HM := Lib.hid (ifF (by decide) HM.out)
    obtain ⟨y15, hy13, hm⟩ := obind HM.out
    replace HM := Lib.hid hm; clear hm
    have HC14 := mOut_ok W6 cap1 (rdL HD.out HR1.out) hy13
    clear hy13
    replace HC14 := Lib.hid HC14
    go_wp2_with fail
    refine HC14.out.mono ?_; rintro e W16 ⟨V17, rfl, ho, hd⟩
    replace HOA := Lib.hid (HOA.out.call hd HD.out.size ho); clear ho
    replace HD := Lib.hid (HD.out.trans (hd.mono HD.out.size))
    replace HMK := Lib.hid (HMK.out.nc (NC.of_below hd))
    clear hd
    obtain ⟨y19, hy20, hm⟩ := obind HM.out
    replace HM := Lib.hid hm; clear hm
    obtain ⟨f21, hy20⟩ := mkI_some hy20
    obtain ⟨N25, hN26⟩ : ∃ N, Int.toNat v0 = N := ⟨_, rfl⟩
    rw [hN26] at hy20; subst hy20
    have hmk22 := run_makeI f21; simp only [hN26] at hmk22
    have hd : Below W16.heap.size W16 (W16.alloc (.cells (Array.replicate N25 (Value.int .i64 0)) 3)) := (Below.refl _ _).alloc (Nat.le_refl _) _
    have ho := mkI_ok W16 f21; rw [hN26] at ho; clear hN26
    have ho2 := owX_ok (W16.alloc (.cells (Array.replicate N25 (Value.int .i64 0)) 3)) 28 (.slice (some ⟨W16.heap.size, 0, none⟩) N25 N25)
    have hd2 : Below (World.heap (W16.alloc (.cells (Array.replicate N25 (Value.int .i64 0)) 3))).size (W16.alloc (.cells (Array.replicate N25 (Value.int .i64 0)) 3)) (World.alloc (W16.alloc (.cells (Array.replicate N25 (Value.int .i64 0)) 3)) (.cells #[(.slice (some ⟨W16.heap.size, 0, none⟩) N25 N25)] 28)) := (Below.refl _ _).alloc (Nat.le_refl _) _
    have hoa := (HOA.out.call hd HD.out.size ho).call hd2 (Nat.le_trans HD.out.size hd.size) ho2
    replace hd := hd.trans (hd2.mono hd.size)
    simp only [World.size_alloc] at hoa
    clear ho ho2 hd2
    go_upto_region 6 with (fail)
    generalize hW : World.alloc (World.alloc W16 _) _ = W23 at *
    clear hW hmk22 f21
    replace HOA := Lib.hid hoa; clear hoa
    replace HD := Lib.hid (HD.out.trans (hd.mono HD.out.size))
    replace HMK := Lib.hid (HMK.out.nc (NC.of_below hd))
    clear hd
    obtain ⟨A28, cap29, he, _⟩ := HP.open_I HOA.out (List.Mem.tail _ (List.Mem.tail _ (List.Mem.tail _ (List.Mem.head _))))
    subst he
    go_wp2_with fail
    obtain ⟨o30, ho, hm⟩ := obind HM.out
    replace HM := Lib.hid hm; have HL1 := Lib.hid ho; clear hm ho
    refine wp_loop_marks _ [false, false, false, false, false, false, false, false, false, false, false, true, true, false, false, false, false, false, false, false, false, false, false, false, false, false, false, false, false, true, true, true, true, true, true, true, true, true, false, true, true, true, true, true, true, true, true, true, true, true, true, true, true, false] (fun gg fk1 dsk1 wr => ∃ (j32 : Int) (x31 : List Int), (fk1 29) = .int .i64 j32 ∧ Hid (Below w.heap.size w wr) ∧ Hid (HP wr w.heap.size [.fl (owX 28 (some ⟨(W16.heap.size + 1), 0, none⟩) ((.slice (some ⟨W16.heap.size, 0, none⟩) N25 N25))), .fl (owI (.slice (some ⟨W16.heap.size, 0, none⟩) N25 N25) (x31)), .fl (owM V17 (y15)), .fl (owI (.slice A28 (y3).length cap29) (y3))]) ∧ Hid (Marks w.heap.size dsk1 wr) ∧ Hid (topo_Deep_L1 F (y3) (y15) gg j32 x31 = some o30)) F _ (by simp only [agreeB, and_self, true_and]) ⟨0, (List.replicate N25 0), rfl, HD, HOA, HMK, HL1⟩ ?round
    case round =>
      intro gk fk1 dsk1 wr hrel _ _ hJ1 _
      obtain ⟨j32, x31, hf33, HD, HOA, HMK, HL1⟩ := hrel
      simp only [setB, Nat.reduceAdd, hf33]
      clear hf33
      rename World => W34
      cases gk with
      | zero => exact absurd ((topo_Deep_L1_0 ..).symm.trans HL1.out) (by intro h; cases h)
      | succ g1 =>
        replace HL1 := Lib.hid ((topo_Deep_L1_s ..).symm.trans HL1.out)
        by_cases hc35 : j32 < ((y3).length : Int)
        · replace HL1 := Lib.hid (ifT hc35 HL1.out)
          have HK36 := Lib.hid hc35
          try rw [← HP.len_I HOA.out (List.Mem.tail _ (List.Mem.tail _ (List.Mem.tail _ (List.Mem.head _))))] at hc35
          obtain ⟨y37, hy38, hm⟩ := obind HL1.out
          replace HL1 := Lib.hid hm; clear hm
          obtain ⟨b39, o40, ea41, _, f42, f43, f44⟩ := ReadsI.ix (HP.rd_I HOA.out (List.Mem.tail _ (List.Mem.tail _ (List.Mem.tail _ (List.Mem.head _))))) hy38
          cases ea41
          try simp only [Nat.zero_add, Nat.add_zero, Int.toNat_natCast, Int.toNat_zero, Int.toNat_one] at f44
          try rw [← HP.len_I HOA.out (List.Mem.tail _ (List.Mem.tail _ (List.Mem.tail _ (List.Mem.head _))))] at f43
          have HY46 := Lib.hid hy38; clear hy38
          go_upto_region 9 with (fail)
          have hd : Below W34.heap.size W34 (W34.alloc (.cells #[.int .i64 (y37)] 3)) := (Below.refl _ _).alloc (Nat.le_refl _) _
          have ho := owX_ok W34 3 (.int .i64 (y37))
          generalize hW : World.alloc W34 _ = W47 at *
          clear hW
          try clear hc35 f42 f43 f44
          replace HOA := Lib.hid (HOA.out.call hd HD.out.size ho); clear ho
          replace HD := Lib.hid (HD.out.trans (hd.mono HD.out.size))
          replace HMK := Lib.hid (HMK.out.nc (NC.of_below hd))
          clear hd
          have fb49 := HP.bx HOA.out (List.Mem.head _)
          obtain ⟨A52, cap53, he, _⟩ := HP.open_M HOA.out (List.Mem.tail _ (List.Mem.tail _ (List.Mem.tail _ (List.Mem.head _))))
          subst he
          obtain ⟨y50, hy51, hm⟩ := obind HL1.out
          replace HL1 := Lib.hid hm; clear hm
          obtain ⟨b54, o55, ea56, _, f57, f58, f59⟩ := ReadsM.ix (HP.rd_M HOA.out (List.Mem.tail _ (List.Mem.tail _ (List.Mem.tail _ (List.Mem.head _))))) hy51
          cases ea56
          try simp only [Nat.zero_add, Nat.add_zero, Int.toNat_natCast, Int.toNat_zero, Int.toNat_one] at f59
          try rw [← HP.len_M HOA.out (List.Mem.tail _ (List.Mem.tail _ (List.Mem.tail _ (List.Mem.head _))))] at f58
          have HY61 := Lib.hid hy51; clear hy51
          obtain ⟨y62, hy63, hm⟩ := obind HL1.out
          replace HL1 := Lib.hid hm; clear hm
          obtain ⟨hlt, hml⟩ := s_of hy63
          have HLT65 := Lib.hid hlt; have HML66 := Lib.hid hml; clear hlt hml hy63
          obtain ⟨o64, ho, hm⟩ := obind HL1.out
          replace HL1 := Lib.hid hm; have HL2 := Lib.hid ho; clear hm ho
          go_wp2_with fail
          refine (each_any _ _).mono ?_; rintro e w' ⟨rfl, rfl⟩
          go_wp2_with fail
          try clear fb49 f57 f58 f59
          have hd : Below W47.heap.size W47 (W47.alloc (.cells #[.int .u64 (((y50) : Nat) : Int)] 49)) := (Below.refl _ _).alloc (Nat.le_refl _) _
          have ho := owX_ok W47 49 (.int .u64 (((y50) : Nat) : Int))
          generalize hW : World.alloc W47 _ = W67 at *
          clear hW
          replace HOA := Lib.hid (HOA.out.call hd HD.out.size ho); clear ho
          replace HD := Lib.hid (HD.out.trans (hd.mono HD.out.size))
          replace HMK := Lib.hid (HMK.out.nc (NC.of_below hd))
          clear hd
          have HDk70 := HD
          refine (wpIn_wide (n := 5)).1 (wp_each2 (m := y50) (Bs := W47.heap.size) (by omega) HLT65.out rfl (HP.bx HOA.out (List.Mem.head _)) rfl (fun rest W => ∃ (x69 : List Int), Hid (Below w.heap.size w W) ∧ Hid (NC W67 W) ∧ Hid (HP W w.heap.size [.fl (owX 49 (some ⟨W47.heap.size, 0, none⟩) (.int .u64 (((y50) : Nat) : Int))), .fl (owX 3 (some ⟨W34.heap.size, 0, none⟩) (.int .i64 (y37))), .fl (owX 28 (some ⟨(W16.heap.size + 1), 0, none⟩) ((.slice (some ⟨W16.heap.size, 0, none⟩) N25 N25))), .fl (owI (.slice (some ⟨W16.heap.size, 0, none⟩) N25 N25) (x69)), .fl (owM (.slice (some ⟨b54, o55, none⟩) (y15).length cap53) (y15)), .fl (owI (.slice (some ⟨b39, o40, none⟩) (y3).length cap29) (y3))]) ∧ Hid (topo_Deep_L2 F (y37) rest x69 = some o64)) (fun _ _ => False) ?hI_q129 ?hIx_q129 ⟨x31, HD, Lib.hid (NC.refl _), HOA, by rw [HML66.out]; exact HL2⟩ ?a1_q129 ?assign_q129 ?body_q129 ?done_q129 ?stop_q129)
          case hI_q129 =>
            rintro rest W W' ⟨x69, hd, hn, hh, hl⟩ hk
            exact ⟨x69, Lib.hid (hk.below hd.out HDk70.out.size (Nat.le_refl _)), Lib.hid (hn.out.keepC hk (Nat.le_refl _)), Lib.hid (hh.out.keepC hk), hl⟩
          case hIx_q129 => exact fun _ _ _ h _ => h
          case assign_q129 =>
            intro l x W K hK
            gi_wp2
            exact hK
          case body_q129 =>
            rintro l71 xn72 rest W73 hx ⟨x69, HD, HN, HOA, HL2⟩ _ _ _ hJ75 hJx76 _ hQ74
            replace HL2 := Lib.hid ((topo_Deep_L2_c ..).symm.trans HL2.out)
            have HNB := Lib.hid (NC.refl W73)
            try gi_wp2_with fail
            have fb77 := HP.bx HOA.out (List.Mem.tail _ (List.Mem.tail _ (List.Mem.head _)))
            obtain ⟨y78, hy79, hm⟩ := obind HL2.out
            replace HL2 := Lib.hid hm; clear hm
            obtain ⟨b80, o81, ea82, _, f83, f84, f85⟩ := ReadsI.ix (HP.rd_I HOA.out (List.Mem.tail _ (List.Mem.tail _ (List.Mem.tail _ (List.Mem.head _))))) hy79
            cases ea82
            try simp only [Nat.zero_add, Nat.add_zero, Int.toNat_natCast, Int.toNat_zero, Int.toNat_one] at f85
            try rw [← HP.len_I HOA.out (List.Mem.tail _ (List.Mem.tail _ (List.Mem.tail _ (List.Mem.head _))))] at f84
            have HY87 := Lib.hid hy79; clear hy79
            have fb88 := HP.bx HOA.out (List.Mem.tail _ (List.Mem.head _))
            obtain ⟨y89, hy90, hm⟩ := obind HL2.out
            replace HL2 := Lib.hid hm; clear hm
            obtain ⟨b91, o92, ea93, _, f94, f95, f96⟩ := ReadsI.ix (HP.rd_I HOA.out (List.Mem.tail _ (List.Mem.tail _ (List.Mem.tail _ (List.Mem.head _))))) hy90
            cases ea93
            try simp only [Nat.zero_add, Nat.add_zero, Int.toNat_natCast, Int.toNat_zero, Int.toNat_one] at f96
            try rw [← HP.len_I HOA.out (List.Mem.tail _ (List.Mem.tail _ (List.Mem.tail _ (List.Mem.head _))))] at f95
            have HY98 := Lib.hid hy90; clear hy90
            by_cases hc99 : y78 < (wrap64 (y89 + 1))
            · replace HL2 := Lib.hid (by have q := HL2.out; (try simp only [show gmax y78 (wrap64 (y89 + 1)) = (wrap64 (y89 + 1)) from if_pos hc99] at q); exact q)
              have HK100 := Lib.hid hc99
              have hc99x : y78 < (IntKind.i64.wrap (y89 + 1)) := by first | exact hc99 | (simp only [i64w]; exact hc99)
              have hc99y : ¬ ((IntKind.i64.wrap (y89 + 1)) ≤ y78) := by first | exact Int.not_le.2 hc99 | (simp only [i64w]; exact Int.not_le.2 hc99)
              have hc99m : max (y78) ((IntKind.i64.wrap (y89 + 1))) = (IntKind.i64.wrap (y89 + 1)) := by omega
              obtain ⟨y103, hy102, hm⟩ := obind HL2.out
              replace HL2 := Lib.hid hm; clear hm
              obtain ⟨f104, hy102⟩ := st_some hy102; subst hy102
              obtain ⟨g110, ea, f107, ⟨ux109, f108⟩, hp, hb⟩ := HP.setI (x := (wrap64 (y89 + 1))) (its1 := [_, _, _]) HOA.out f104
              cases ea
              obtain ⟨q0, q1⟩ := f104
              try rw [← HP.len_I HOA.out (List.Mem.tail _ (List.Mem.tail _ (List.Mem.tail _ (List.Mem.head _))))] at q1
              try simp only [Int.toNat_natCast] at f107 f108 hp hb
              clear f108
              have HP_ := Lib.hid hp; have HB_ := Lib.hid hb; clear hp hb
              replace HNB := Lib.hid (HNB.out.trans ((ncOf HP_.out).trans (NC.drew _)))
              refine wpIn_region_still_tail (open_round l71) 13 (by kernel_rfl) (by kernel_rfl) (by kernel_rfl) ?_; simp only [List.take_succ_cons, List.take_zero, List.drop_succ_cons, List.drop_zero]; repeat still_step; try refine wpStill_nil ?_
              change wpListIn _ _ _ _ _ _ _ (World.drew W73)
              gi_wp2_with fail
              have hp := HP_.out.dr (Dr.one _); have hb := HB_.out.trans ((Dr.one _).below _); clear HP_ HB_
              generalize hW : World.drew (World.setCell W73 _ _) = W101 at *
              clear hW
              try clear f107 q0 q1 fb77 f83 f84 f85 fb88 f94 f95 f96 hc99 hc99x hc99y hc99m
              replace HOA := Lib.hid (show HP W101 w.heap.size [.fl (owX 49 (some ⟨W47.heap.size, 0, none⟩) (.int .u64 (((y50) : Nat) : Int))), .fl (owX 3 (some ⟨W34.heap.size, 0, none⟩) (.int .i64 (y37))), .fl (owX 28 (some ⟨(W16.heap.size + 1), 0, none⟩) ((.slice (some ⟨W16.heap.size, 0, none⟩) N25 N25))), .fl (owI (.slice (some ⟨W16.heap.size, 0, none⟩) N25 N25) ((List.set x69 (Int.toNat (xn72 : Int)) (wrap64 (y89 + 1))))), .fl (owM (.slice (some ⟨b54, o55, none⟩) (y15).length cap53) (y15)), .fl (owI (.slice (some ⟨b39, o40, none⟩) (y3).length cap29) (y3))] from hp); clear hp
              replace HD := Lib.hid (HD.out.trans hb); clear hb
              gi_wp2_with fail
              exact ⟨HNB.out, HP.bx HOA.out (List.Mem.head _), hJ75 _ ⟨(List.set x69 (Int.toNat (xn72 : Int)) (wrap64 (y89 + 1))), HD, Lib.hid (HN.out.trans HNB.out), HOA, HL2⟩⟩
            · replace HL2 := Lib.hid (by have q := HL2.out; (try simp only [show gmax y78 (wrap64 (y89 + 1)) = y78 from if_neg hc99] at q); exact q)
              have HK100 := Lib.hid hc99
              have hc99x : ¬ (y78 < (IntKind.i64.wrap (y89 + 1))) := by first | exact hc99 | (simp only [i64w]; exact hc99)
              have hc99y : (IntKind.i64.wrap (y89 + 1)) ≤ y78 := by first | exact Int.not_lt.1 hc99 | (simp only [i64w]; exact Int.not_lt.1 hc99)
              have hc99m : max (y78) ((IntKind.i64.wrap (y89 + 1))) = y78 := by omega
              obtain ⟨y116, hy115, hm⟩ := obind HL2.out
              replace HL2 := Lib.hid hm; clear hm
              obtain ⟨f117, hy115⟩ := st_some hy115; subst hy115
              obtain ⟨g123, ea, f120, ⟨ux122, f121⟩, hp, hb⟩ := HP.setI (x := y78) (its1 := [_, _, _]) HOA.out f117
              cases ea
              obtain ⟨q0, q1⟩ := f117
              try rw [← HP.len_I HOA.out (List.Mem.tail _ (List.Mem.tail _ (List.Mem.tail _ (List.Mem.head _))))] at q1
              try simp only [Int.toNat_natCast] at f120 f121 hp hb
              clear f121
              have HP_ := Lib.hid hp; have HB_ := Lib.hid hb; clear hp hb
              replace HNB := Lib.hid (HNB.out.trans ((ncOf HP_.out).trans (NC.drew _)))
              refine wpIn_region_still_tail (open_round l71) 13 (by kernel_rfl) (by kernel_rfl) (by kernel_rfl) ?_; simp only [List.take_succ_cons, List.take_zero, List.drop_succ_cons, List.drop_zero]; repeat still_step; try refine wpStill_nil ?_
              change wpListIn _ _ _ _ _ _ _ (World.drew W73)
              gi_wp2_with fail
              have hp := HP_.out.dr (Dr.one _); have hb := HB_.out.trans ((Dr.one _).below _); clear HP_ HB_
              generalize hW : World.drew (World.setCell W73 _ _) = W114 at *
              clear hW
              try clear f120 q0 q1 fb77 f83 f84 f85 fb88 f94 f95 f96 hc99 hc99x hc99y hc99m
              replace HOA := Lib.hid (show HP W114 w.heap.size [.fl (owX 49 (some ⟨W47.heap.size, 0, none⟩) (.int .u64 (((y50) : Nat) : Int))), .fl (owX 3 (some ⟨W34.heap.size, 0, none⟩) (.int .i64 (y37))), .fl (owX 28 (some ⟨(W16.heap.size + 1), 0, none⟩) ((.slice (some ⟨W16.heap.size, 0, none⟩) N25 N25))), .fl (owI (.slice (some ⟨W16.heap.size, 0, none⟩) N25 N25) ((List.set x69 (Int.toNat (xn72 : Int)) y78))), .fl (owM (.slice (some ⟨b54, o55, none⟩) (y15).length cap53) (y15)), .fl (owI (.slice (some ⟨b39, o40, none⟩) (y3).length cap29) (y3))] from hp); clear hp
              replace HD := Lib.hid (HD.out.trans hb); clear hb
              gi_wp2_with fail
              exact ⟨HNB.out, HP.bx HOA.out (List.Mem.head _), hJ75 _ ⟨(List.set x69 (Int.toNat (xn72 : Int)) y78), HD, Lib.hid (HN.out.trans HNB.out), HOA, HL2⟩⟩
          case done_q129 =>
            rintro D127 W128 hD ⟨x69, HD, HN, HOA, HL2⟩ hK
            have hov := Option.some.inj ((topo_Deep_L2_n ..).symm.trans HL2.out)
            replace HMK := Lib.hid (HMK.out.push HN.out hD HDk70.out.size hK); clear hK hD HN
            subst hov
            have hm := HL1.out; try dsimp only at hm
            replace HL1 := Lib.hid hm; clear hm
            go_wp2_with fail
            replace HOA := Lib.hid (HOA.out.sub (.cons _ (.cons _ (.cons₂ _ (.cons₂ _ (.cons₂ _ (.cons₂ _ .slnil)))))))
            refine Handed.intro g1 (by omega) ?_
            refine hJ1 _ _ _ ⟨by simp only [agreeB, and_self, true_and], (wrap64 (j32 + 1)), x69, rfl, HD, HOA, HMK, HL1⟩
          case stop_q129 => exact fun _ _ _ _ h _ => h.elim
        · replace HL1 := Lib.hid (ifF hc35 HL1.out)
          have hc35d := decide_eq_false hc35
          have HK36 := Lib.hid hc35
          try rw [← HP.len_I HOA.out (List.Mem.tail _ (List.Mem.tail _ (List.Mem.tail _ (List.Mem.head _))))] at hc35
          obtain rfl := Option.some.inj HL1.out
          have hm := HM.out; try dsimp only at hm
          replace HM := Lib.hid hm; clear hm
          have fb130 := HP.bx HOA.out (List.Mem.head _)
          obtain rfl := Option.some.inj HM.out
          go_wp2_with fail
          try clear hc35 hc35d fb130
          refine leave_marks (B := w.heap.size) _ _ HMK.out (fun W' => results_tmp2 rfl _ _ _) (fun W' hk => ⟨_, rfl, (HOA.out.keepC hk).get (List.Mem.tail _ (List.Mem.head _)), hk.below HD.out (Nat.le_refl _) (Nat.le_refl _)⟩)
  · rw [errV_pos _ hz5] at HC2; replace HC2 := Lib.hid HC2
    go_wp2_with fail
    refine HC2.out.mono ?_; rintro e W9 ⟨V10, rfl, ho, hd⟩
    replace HOA := Lib.hid (HOA.out.call hd HD.out.size ho); clear ho
    replace HD := Lib.hid (HD.out.trans (hd.mono HD.out.size))
    replace HMK := Lib.hid (HMK.out.nc (NC.of_below hd))
    clear hd
    have HZ12 := Lib.hid hz5; clear hz5
    replace HM := Lib.hid (ifT (bne_iff_ne.2 HZ12.out) HM.out)
    obtain rfl := Option.some.inj HM.out
    go_wp2_with fail
    refine leave_marks (B := w.heap.size) _ _ HMK.out (fun W' => results_tmp2 rfl _ _ _) (fun W' hk => ⟨_, (by first | (rw [errV_pos _ HZ12.out]; rfl) | rw [errV_pos _ HZ12.out]), World.ownsRow_nil _ _ _ _, hk.below HD.out (Nat.le_refl _) (Nat.le_refl _)⟩)
def chain_Longest (F : Nat) (v0 : Int) (v1 : List (Int × Int)) : Option (Int × Int) := (topo_Deep F (v0) (v1)).bind fun y1 => (if (y1.2 != 0) = true then some ((0, y1.2)) else (slices_Max_int_int F (y1.1)).bind fun y2 => some (((wrap64 (y2 + 1)), 0)))
set_option maxRecDepth 100000 in
set_option maxHeartbeats 4000000 in
theorem chain_Longest_ok {F : Nat} {v0 : Int} {v1 : List (Int × Int)} {A1 : Option Addr} {r : Int × Int} (w : World) (cap1 : Nat) (hr1 : ReadsL w w.heap.size A1 v1) (h : chain_Longest F v0 v1 = some r) :
    Calls Tryd.prog 10 #[.int .i64 v0, .slice A1 v1.length cap1] w fun e w' => e = .returned (.tuple #[(.int .i64 r.1), (errV 55 r.2)]) ∧ Below w.heap.size w w' := by
  have HR1 := Lib.hid hr1; clear hr1
  have HD := Lib.hid (Below.refl w.heap.size w)
  have HOA := Lib.hid (HP.nil (W := w) (B := w.heap.size))
  unfold chain_Longest at h
  have HM := Lib.hid h; clear h
  go_enter Tryd.func10, Tryd.ntmps10
  obtain ⟨⟨y3, y4⟩, hy1, hm⟩ := obind HM.out
  dsimp only at hm
  replace HM := Lib.hid hm; clear hm
  have HC2 := topo_Deep_ok w cap1 (rdL HD.out HR1.out) hy1
  clear hy1
  by_cases hz5 : y4 = 0
  · subst hz5
    rw [errV_zero] at HC2; replace HC2 := Lib.hid HC2
    go_wp2_with fail
    refine HC2.out.mono ?_; rintro e W6 ⟨V7, rfl, ho, hd⟩
    replace HOA := Lib.hid (HOA.out.call hd HD.out.size ho); clear ho
    replace HD := Lib.hid (HD.out.trans (hd.mono HD.out.size))
    clear hd
    replace HM := Lib.hid (ifF (by decide) HM.out)
    obtain ⟨y15, hy13, hm⟩ := obind HM.out
    replace HM := Lib.hid hm; clear hm
    obtain ⟨A16, cap17, he, _⟩ := HP.open_I HOA.out (List.Mem.head _)
    subst he
    have HC14 := slices_Max_int_int_ok W6 cap17 (HP.rd_I HOA.out (List.Mem.head _)) hy13
    clear hy13
    replace HC14 := Lib.hid HC14
    obtain rfl := Option.some.inj HM.out
    go_wp2_with fail
    refine HC14.out.mono ?_; rintro e w' ⟨rfl, rfl⟩
    go_wp2_with fail
    go_ret2
    exact ⟨rfl, HD.out⟩
  · rw [errV_pos _ hz5] at HC2; replace HC2 := Lib.hid HC2
    go_wp2_with fail
    refine HC2.out.mono ?_; rintro e W9 ⟨V10, rfl, ho, hd⟩
    replace HOA := Lib.hid (HOA.out.call hd HD.out.size ho); clear ho
    replace HD := Lib.hid (HD.out.trans (hd.mono HD.out.size))
    clear hd
    have HZ12 := Lib.hid hz5; clear hz5
    replace HM := Lib.hid (ifT (bne_iff_ne.2 HZ12.out) HM.out)
    obtain rfl := Option.some.inj HM.out
    go_wp2_with fail
    go_ret2
    exact ⟨(by first | (rw [errV_pos _ HZ12.out]; rfl) | rw [errV_pos _ HZ12.out]), HD.out⟩
end Go.Proofs.YtoiidngnlhhanaaDoor
