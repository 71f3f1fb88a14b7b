import Derived.Test.YtccdnokddkpmgaaDoorBox
import Derived.Test.YtccdnokddkpmgaaDoorTl
import Derived.Test.YtccdnokddkpmgaaDoorGR
set_option linter.all false
set_option maxRecDepth 100000
namespace Go.Proofs.YtccdnokddkpmgaaDoor
open Go.RowKit
attribute [local go_sem] Oper.semAt_some
def core_Reach_L2 (F : Nat)  : List Nat → (Nat) → (List Int) → Option (Nat × List Int)
  | [], v4, v5 => some (v4, v5)
  | x :: xs, v4, v5 => (sWith (v4) ((x : Int))).bind fun y4 => (app v5 (x : Int)).bind fun y5 => core_Reach_L2 F  xs (y4) (y5)
theorem core_Reach_L2_n (F : Nat) (v4 : Nat) (v5 : List Int) : core_Reach_L2 F  [] v4 v5 = some (v4, v5) := by rw [core_Reach_L2]
theorem core_Reach_L2_c (F : Nat) (v4 : Nat) (v5 : List Int) (x : Nat) (xs : List Nat) : core_Reach_L2 F  (x :: xs) v4 v5 = ((sWith (v4) ((x : Int))).bind fun y4 => (app v5 (x : Int)).bind fun y5 => core_Reach_L2 F  xs (y4) (y5)) := by rw [core_Reach_L2]
def core_Reach_L1 (F : Nat) (v1 : List Nat) (v2 : Nat) : Nat → (Nat) → (List Int) → Option (Nat × List Int)
  | 0, _, _ => none
  | g+1, v4, v5 => if 0 < ((v5).length : Int) then (ix v5 0).bind fun y2 => (dr v5 1).bind fun y3 => (ix v1 y2).bind fun y8 => (sAnd y8 v2).bind fun y9 => (sNot y9 v4).bind fun y10 => (sEach y10).bind fun y7 => (core_Reach_L2 F  y7 (v4) (y3)).bind fun o6 => core_Reach_L1 F v1 v2 g (o6.1) (o6.2) else some (v4, v5)
theorem core_Reach_L1_0 (F : Nat) (v1 : List Nat) (v2 : Nat) (v4 : Nat) (v5 : List Int) : core_Reach_L1 F v1 v2 0 v4 v5 = none := by rw [core_Reach_L1]
theorem core_Reach_L1_s (F g : Nat) (v1 : List Nat) (v2 : Nat) (v4 : Nat) (v5 : List Int) : core_Reach_L1 F v1 v2 (g+1) v4 v5 = (if 0 < ((v5).length : Int) then (ix v5 0).bind fun y2 => (dr v5 1).bind fun y3 => (ix v1 y2).bind fun y8 => (sAnd y8 v2).bind fun y9 => (sNot y9 v4).bind fun y10 => (sEach y10).bind fun y7 => (core_Reach_L2 F  y7 (v4) (y3)).bind fun o6 => core_Reach_L1 F v1 v2 g (o6.1) (o6.2) else some (v4, v5)) := by rw [core_Reach_L1]
def core_Reach (F : Nat) (v0 : Int) (v1 : List Nat) (v2 : Nat) : Option (Nat) := (sWith (0) (v0)).bind fun y1 => (core_Reach_L1 F (v1) (v2) F (y1) ([v0])).bind fun o11 => some (o11.1)
set_option maxRecDepth 100000 in
set_option maxHeartbeats 4000000 in
theorem core_Reach_ok {F : Nat} {v0 : Int} {v1 : List Nat} {A1 : Option Addr} {v2 : Nat} {r : Nat} (w : World) (cap1 : Nat) (hr1 : ReadsM w w.heap.size A1 v1) (h : core_Reach F v0 v1 v2 = some r) :
    Calls Tryd.prog 26 #[.int .i64 v0, .slice A1 v1.length cap1, .int .u64 ((v2 : Nat) : Int)] w fun e w' => e = .returned (.int .u64 ((r : Nat) : Int)) ∧ Below w.heap.size w w' := by
  have HR1 := Lib.hid hr1; clear hr1
  have HD := Lib.hid (Below.refl w.heap.size w)
  have HOA := Lib.hid (HP.nil (W := w) (B := w.heap.size))
  unfold core_Reach at h
  have HM := Lib.hid h; clear h
  have HMK := Lib.hid (Marks.nil w.heap.size w)
  refine (callsIn_wide (n := 5)).1 ?_
  refine callsIn_of_wp_marks Tryd.func26 rfl trivial ?_ rfl
  simp only [Tryd.ntmps26, List.size_toArray, List.length_cons, List.length_nil, Nat.reduceAdd, Nat.reduceSub, Array.replicate_succ, Array.replicate_zero, List.push_toArray, List.append_toArray, List.nil_append, List.cons_append]
  refine wpIn_wide.2 ?_
  obtain ⟨y3, hy1, hm⟩ := obind HM.out
  replace HM := Lib.hid hm; clear hm
  have HC2 := sWith_ok w  hy1
  clear hy1
  replace HC2 := Lib.hid HC2
  go_wp2_with fail
  refine HC2.out.mono ?_; rintro e w' ⟨rfl, rfl⟩
  go_upto_region 2 with (fail)
  have hd : Below w.heap.size w (w.alloc (.cells #[.int .u64 (((y3) : Nat) : Int)] 53)) := (Below.refl _ _).alloc (Nat.le_refl _) _
  have ho := owX_ok w 53 (.int .u64 (((y3) : Nat) : Int))
  generalize hW : World.alloc w _ = W4 at *
  clear hW
  replace HOA := Lib.hid (HOA.out.call hd HD.out.size ho); clear ho
  replace HD := Lib.hid (HD.out.trans (hd.mono HD.out.size))
  replace HMK := Lib.hid (HMK.out.nc (NC.of_below hd))
  clear hd
  have hd : Below W4.heap.size W4 (World.alloc W4 (.cells #[Value.int .i64 (v0)] 3)) := (Below.refl _ _).alloc (Nat.le_refl _) _
  have ho : (owI (.slice (some ⟨W4.heap.size, 0, none⟩) 1 1) [v0]).ok (World.alloc W4 (.cells #[Value.int .i64 (v0)] 3)) W4.heap.size := litI_ok W4 [v0] (by unfold maxLen; simp)
  replace HOA := Lib.hid (HOA.out.call hd HD.out.size ho); clear ho
  replace HD := Lib.hid (HD.out.trans (hd.mono HD.out.size))
  replace HMK := Lib.hid (HMK.out.nc (NC.of_below hd))
  clear hd
  have hd : Below (World.heap (World.alloc W4 (.cells #[Value.int .i64 (v0)] 3))).size (World.alloc W4 (.cells #[Value.int .i64 (v0)] 3)) (World.alloc (World.alloc W4 (.cells #[Value.int .i64 (v0)] 3)) (.cells #[(.slice (some ⟨W4.heap.size, 0, none⟩) 1 1)] 44)) := (Below.refl _ _).alloc (Nat.le_refl _) _
  have ho := owX_ok (World.alloc W4 (.cells #[Value.int .i64 (v0)] 3)) 44 ((.slice (some ⟨W4.heap.size, 0, none⟩) 1 1))
  replace HOA := Lib.hid (HOA.out.call hd HD.out.size ho); clear ho
  simp only [World.size_alloc] at HOA
  replace HD := Lib.hid (HD.out.trans (hd.mono HD.out.size))
  replace HMK := Lib.hid (HMK.out.nc (NC.of_below hd))
  clear hd
  go_upto_region 3 with (fail)
  generalize hW : World.alloc (World.alloc W4 _) _ = W6 at *
  clear hW
  replace HOA := Lib.hid (HP.toTl (its1 := [_]) HOA.out)
  replace HOA := Lib.hid (show HP _ _ [.fl (owX 44 (some ⟨(W4.heap.size + 1), 0, none⟩) ((.slice (some ⟨W4.heap.size, 0, none⟩) 1 1))), .tl (.slice (some ⟨W4.heap.size, 0, none⟩) 1 1) ([v0]), .fl (owX 53 (some ⟨w.heap.size, 0, none⟩) (.int .u64 (((y3) : Nat) : Int)))] from HOA.out)
  go_wp2_with fail
  obtain ⟨o9, ho, hm⟩ := obind HM.out
  replace HM := Lib.hid hm; have HL1 := Lib.hid ho; clear hm ho
  refine wp_loop_marks _ [false, false, false, false, false, false, false, false, true, true, true, false, false, false, false, true, true, true, true, true, true, true, true, true, true, true, true, true, true, true, true, true, false, true, true, true, true, true, true, true, true, false] (fun gg fk1 dsk1 wr => ∃ (x10 : Nat) (x11 : List Int) (V12 : Value) (g13 : Nat), (fk1 8) = .pointer (some ⟨g13, 0, none⟩) ∧ Hid (Below w.heap.size w wr) ∧ Hid (HP wr w.heap.size [.fl (owX 44 (some ⟨g13, 0, none⟩) (V12)), .tl V12 (x11), .fl (owX 53 (some ⟨w.heap.size, 0, none⟩) (.int .u64 (((x10) : Nat) : Int)))]) ∧ Hid (Marks w.heap.size dsk1 wr) ∧ Hid (core_Reach_L1 F (v1) (v2) gg x10 x11 = some o9)) F _ (by simp only [agreeB, and_self, true_and]) ⟨y3, [v0], (.slice (some ⟨W4.heap.size, 0, none⟩) 1 1), _, rfl, HD, HOA, HMK, HL1⟩ ?round
  case round =>
    intro gk fk1 dsk1 wr hrel _ _ hJ1 _
    obtain ⟨x10, x11, V12, g13, hf14, HD, HOA, HMK, HL1⟩ := hrel
    simp only [setB, Nat.reduceAdd, hf14]
    clear hf14
    rename World => W15
    cases gk with
    | zero => exact absurd ((core_Reach_L1_0 ..).symm.trans HL1.out) (by intro h; cases h)
    | succ g1 =>
      replace HL1 := Lib.hid ((core_Reach_L1_s ..).symm.trans HL1.out)
      obtain ⟨A16, cap17, he, _⟩ := HP.open_T HOA.out (List.Mem.tail _ (List.Mem.head _))
      subst he
      have fb18 := HP.bx HOA.out (List.Mem.head _)
      by_cases hc19 : 0 < ((x11).length : Int)
      · replace HL1 := Lib.hid (ifT hc19 HL1.out)
        have HK20 := Lib.hid hc19
        have hc19n := hc19; try norm_cast at hc19n
        obtain ⟨y21, hy22, hm⟩ := obind HL1.out
        replace HL1 := Lib.hid hm; clear hm
        obtain ⟨b23, o24, ea25, _, f26, f27, f28⟩ := ReadsI.ix (HP.rd_T HOA.out (List.Mem.tail _ (List.Mem.head _))) hy22
        cases ea25
        try simp only [Nat.zero_add, Nat.add_zero, Int.toNat_natCast, Int.toNat_zero, Int.toNat_one] at f28
        have f27n := f27; try norm_cast at f27n
        try rw [← HP.len_T HOA.out (List.Mem.tail _ (List.Mem.head _))] at f27
        have HY30 := Lib.hid hy22; clear hy22
        obtain ⟨y31, hy32, hm⟩ := obind HL1.out
        replace HL1 := Lib.hid hm; clear hm
        obtain ⟨f33, hy32⟩ := dr_some hy32; subst hy32
        obtain ⟨A34, n37, cap35, hsl36, hp⟩ := HP.sliceT (its1 := [_]) HOA.out f33
        clear f33
        replace HOA := Lib.hid (show HP W15 w.heap.size [.fl (owX 44 (some ⟨g13, 0, none⟩) ((.slice (some ⟨b23, o24, none⟩) (x11).length cap17))), .tl (.slice A34 n37 cap35) ((List.drop (Int.toNat 1) x11)), .fl (owX 53 (some ⟨w.heap.size, 0, none⟩) (.int .u64 (((x10) : Nat) : Int)))] from hp); clear hp
        obtain ⟨q0, q1, hp, hb⟩ := HP.setBx (its1 := []) HOA.out ((.slice A34 n37 cap35))
        have HP_ := Lib.hid hp; have HB_ := Lib.hid hb; clear hp hb
        go_upto_region 6 with (fail)
        have hp := HP_.out; have hb := HB_.out; clear HP_ HB_
        replace HMK := Lib.hid (HMK.out.nc (NC.setCell W15 ⟨g13, 0, none⟩ ((.slice A34 n37 cap35))))
        generalize hW : World.setCell W15 _ _ = W38 at *
        clear hW
        try clear q0 q1 fb18 hc19 hc19n f26 f27 f28 f27n hsl36
        replace HOA := Lib.hid (show HP W38 w.heap.size [.fl (owX 44 (some ⟨g13, 0, none⟩) ((.slice A34 n37 cap35))), .tl (.slice A34 n37 cap35) ((List.drop (Int.toNat 1) x11)), .fl (owX 53 (some ⟨w.heap.size, 0, none⟩) (.int .u64 (((x10) : Nat) : Int)))] from hp); clear hp
        replace HD := Lib.hid (HD.out.trans hb); clear hb
        try go_wp2_with fail
        obtain ⟨y39, hy40, hm⟩ := obind HL1.out
        replace HL1 := Lib.hid hm; clear hm
        obtain ⟨b41, o42, ea43, _, f44, f45, f46⟩ := ReadsM.ix (rdM HD.out HR1.out) hy40
        cases ea43
        try simp only [Nat.zero_add, Nat.add_zero, Int.toNat_natCast, Int.toNat_zero, Int.toNat_one] at f46
        have HY48 := Lib.hid hy40; clear hy40
        obtain ⟨y49, hy50, hm⟩ := obind HL1.out
        replace HL1 := Lib.hid hm; clear hm
        obtain ⟨f51, hy50⟩ := sAnd_some hy50; subst hy50
        have fb52 := HP.bx HOA.out (List.Mem.tail _ (List.Mem.tail _ (List.Mem.head _)))
        obtain ⟨y53, hy54, hm⟩ := obind HL1.out
        replace HL1 := Lib.hid hm; clear hm
        obtain ⟨f55, hy54⟩ := sNot_some hy54; subst hy54
        obtain ⟨y56, hy57, hm⟩ := obind HL1.out
        replace HL1 := Lib.hid hm; clear hm
        obtain ⟨hlt, hml⟩ := s_of hy57
        have HLT59 := Lib.hid hlt; have HML60 := Lib.hid hml; clear hlt hml hy57
        obtain ⟨o58, ho, hm⟩ := obind HL1.out
        replace HL1 := Lib.hid hm; have HL2 := Lib.hid ho; clear hm ho
        go_still_tail 8, (by kernel_rfl)
        change wpList _ _ _ _ _ (World.drew W38)
        have hd1 := Dr.one W38
        generalize hW : World.drew W38 = W61 at *
        clear hW
        replace HOA := Lib.hid (HOA.out.below (hd1.below _))
        replace HD := Lib.hid (HD.out.trans ((hd1.below _).mono HD.out.size))
        replace HMK := Lib.hid (HMK.out.nc (NC.of_below (hd1.below _)))
        clear hd1
        go_wp2_with fail
        refine (each_any _ _).mono ?_; rintro e w' ⟨rfl, rfl⟩
        go_wp2_with fail
        try clear f44 f45 f46 f51 fb52 f55
        generalize ((Pl.ndiff (y39 &&& v2) x10)) = me62 at *
        have hd : Below W61.heap.size W61 (W61.alloc (.cells #[.int .u64 (((me62) : Nat) : Int)] 53)) := (Below.refl _ _).alloc (Nat.le_refl _) _
        have ho := owX_ok W61 53 (.int .u64 (((me62) : Nat) : Int))
        generalize hW : World.alloc W61 _ = W63 at *
        clear hW
        replace HOA := Lib.hid (HOA.out.call hd HD.out.size ho); clear ho
        replace HD := Lib.hid (HD.out.trans (hd.mono HD.out.size))
        replace HMK := Lib.hid (HMK.out.nc (NC.of_below hd))
        clear hd
        have HDk68 := HD
        refine (wpIn_wide (n := 5)).1 (wp_each2 (m := me62) (Bs := W61.heap.size) (by omega) HLT59.out rfl (HP.bx HOA.out (List.Mem.head _)) rfl (fun rest W => ∃ (x65 : Nat) (x66 : List Int) (V67 : Value), Hid (Below w.heap.size w W) ∧ Hid (NC W63 W) ∧ Hid (HP W w.heap.size [.fl (owX 53 (some ⟨W61.heap.size, 0, none⟩) (.int .u64 (((me62) : Nat) : Int))), .fl (owX 44 (some ⟨g13, 0, none⟩) (V67)), .tl V67 (x66), .fl (owX 53 (some ⟨w.heap.size, 0, none⟩) (.int .u64 (((x65) : Nat) : Int)))]) ∧ Hid (core_Reach_L2 F  rest x65 x66 = some o58)) (fun _ _ => False) ?hI ?hIx ⟨x10, (List.drop (Int.toNat 1) x11), (.slice A34 n37 cap35), HD, Lib.hid (NC.refl _), HOA, by rw [HML60.out]; exact HL2⟩ ?a1 ?assign ?body ?done ?stop)
        case hI =>
          rintro rest W W' ⟨x65, x66, V67, hd, hn, hh, hl⟩ hk
          exact ⟨x65, x66, V67, Lib.hid (hk.below hd.out HDk68.out.size (Nat.le_refl _)), Lib.hid (hn.out.keepC hk (Nat.le_refl _)), Lib.hid (hh.out.keepC hk), hl⟩
        case hIx => exact fun _ _ _ h _ => h
        case assign =>
          intro l x W K hK
          gi_wp2
          exact hK
        case body =>
          rintro l69 xn70 rest W71 hx ⟨x65, x66, V67, HD, HN, HOA, HL2⟩ _ _ _ hJ73 hJx74 _ hQ72
          replace HL2 := Lib.hid ((core_Reach_L2_c ..).symm.trans HL2.out)
          have HNB := Lib.hid (NC.refl W71)
          have fb75 := HP.bx HOA.out (List.Mem.tail _ (List.Mem.tail _ (List.Mem.tail _ (List.Mem.head _))))
          obtain ⟨y78, hy76, hm⟩ := obind HL2.out
          replace HL2 := Lib.hid hm; clear hm
          have HC77 := sWith_ok W71  hy76
          clear hy76
          replace HC77 := Lib.hid HC77
          gi_wp2_with fail
          refine ⟨trivial, ?_⟩; refine (CallsIn.inRound l69 (callsIn_wide.2 HC77.out)).mono ?_; rintro e w' ⟨rfl, rfl⟩
          obtain ⟨q0, q1, hp, hb⟩ := HP.setBx (its1 := [_, _, _]) HOA.out (.int .u64 (((y78) : Nat) : Int))
          have HP_ := Lib.hid hp; have HB_ := Lib.hid hb; clear hp hb
          gi_upto_region 9 with (fail)
          have hp := HP_.out; have hb := HB_.out; clear HP_ HB_
          replace HNB := Lib.hid (HNB.out.trans (NC.setCell W71 ⟨w.heap.size, 0, none⟩ (.int .u64 (((y78) : Nat) : Int))))
          generalize hW : World.setCell W71 _ _ = W79 at *
          clear hW
          try clear q0 q1 fb75
          replace HOA := Lib.hid (show HP W79 w.heap.size [.fl (owX 53 (some ⟨W61.heap.size, 0, none⟩) (.int .u64 (((me62) : Nat) : Int))), .fl (owX 44 (some ⟨g13, 0, none⟩) (V67)), .tl V67 (x66), .fl (owX 53 (some ⟨w.heap.size, 0, none⟩) (.int .u64 (((y78) : Nat) : Int)))] from hp); clear hp
          replace HD := Lib.hid (HD.out.trans hb); clear hb
          obtain ⟨A80, cap81, he, _⟩ := HP.open_T HOA.out (List.Mem.tail _ (List.Mem.tail _ (List.Mem.head _)))
          subst he
          have fb82 := HP.bx HOA.out (List.Mem.tail _ (List.Mem.head _))
          obtain ⟨y83, hy84, hm⟩ := obind HL2.out
          replace HL2 := Lib.hid hm; clear hm
          obtain ⟨f85, hy84⟩ := app_some hy84; subst hy84
          obtain ⟨V86, W87, hrun, hoa, hb, hn⟩ := run_appT (e' := 3) (y := (xn70 : Int)) (L1 := [_, _]) W79 44 44 Tryd.underlying44 HOA.out f85 HD.out.size
          obtain ⟨A88, cap89, he, _⟩ := HP.open_T hoa (List.Mem.tail _ (List.Mem.tail _ (List.Mem.head _)))
          obtain ⟨n90, hn3⟩ : ∃ n, List.length (x66 ++ [(xn70 : Int)]) = n := ⟨_, rfl⟩
          rw [hn3] at he; subst he; clear hn3
          obtain ⟨q0, q1, hp, hb2⟩ := HP.setBx (its1 := [_]) hoa (.slice A88 n90 cap89)
          have HP_ := Lib.hid hp; have HB_ := Lib.hid hb2; clear hp hb2 hoa
          have HR_ := Lib.hid hrun; have HN_ := Lib.hid hn; have HOB := Lib.hid hb; clear hrun hn hb
          gi_wp2_with (gi_at_builtin; refine wpIn_appRun HR_.out rfl rfl rfl rfl ?_)
          have hp := HP_.out; clear HP_ HR_
          replace HNB := Lib.hid (HNB.out.trans (HN_.out.trans (NC.setCell W87 ⟨g13, 0, none⟩ (.slice A88 n90 cap89))))
          have hb := HOB.out.trans HB_.out
          generalize hW : World.setCell W87 _ _ = W91 at *
          clear hW HB_ HOB HN_
          try clear q0 q1 fb82
          replace HOA := Lib.hid (show HP W91 w.heap.size [.fl (owX 53 (some ⟨W61.heap.size, 0, none⟩) (.int .u64 (((me62) : Nat) : Int))), .fl (owX 44 (some ⟨g13, 0, none⟩) ((.slice A88 n90 cap89))), .tl (.slice A88 n90 cap89) ((x66 ++ [(xn70 : Int)])), .fl (owX 53 (some ⟨w.heap.size, 0, none⟩) (.int .u64 (((y78) : Nat) : Int)))] from hp); clear hp
          replace HD := Lib.hid (HD.out.trans hb); clear hb
          gi_wp2_with fail
          exact ⟨HNB.out, HP.bx HOA.out (List.Mem.head _), hJ73 _ ⟨y78, (x66 ++ [(xn70 : Int)]), (.slice A88 n90 cap89), HD, Lib.hid (HN.out.trans HNB.out), HOA, HL2⟩⟩
        case done =>
          rintro D92 W93 hD ⟨x65, x66, V67, HD, HN, HOA, HL2⟩ hK
          have hov := Option.some.inj ((core_Reach_L2_n ..).symm.trans HL2.out)
          replace HMK := Lib.hid (HMK.out.push HN.out hD HDk68.out.size hK); clear hK hD HN
          subst hov
          have hm := HL1.out; try dsimp only at hm
          replace HL1 := Lib.hid hm; clear hm
          obtain ⟨A94, cap95, he, _⟩ := HP.open_T HOA.out (List.Mem.tail _ (List.Mem.tail _ (List.Mem.head _)))
          subst he
          have fb96 := HP.bx HOA.out (List.Mem.tail _ (List.Mem.head _))
          go_wp2_with fail
          have hd : Below W93.heap.size W93 (W93.alloc (.cells #[(.slice A94 (x66).length cap95)] 44)) := (Below.refl _ _).alloc (Nat.le_refl _) _
          have ho := owX_ok W93 44 ((.slice A94 (x66).length cap95))
          generalize hW : World.alloc W93 _ = W97 at *
          clear hW
          try clear fb96
          replace HOA := Lib.hid (HOA.out.call hd HD.out.size ho); clear ho
          replace HD := Lib.hid (HD.out.trans (hd.mono HD.out.size))
          replace HMK := Lib.hid (HMK.out.nc (NC.of_below hd))
          clear hd
          replace HOA := Lib.hid (HOA.out.sub (.cons₂ _ (.cons₂ _ (.cons _ (.cons₂ _ (.cons₂ _ .slnil))))))
          go_wp2_with fail
          replace HOA := Lib.hid (HOA.out.sub (.cons₂ _ (.cons _ (.cons₂ _ (.cons₂ _ .slnil)))))
          refine Handed.intro g1 (by omega) ?_
          refine hJ1 _ _ _ ⟨by simp only [agreeB, and_self, true_and], x65, x66, (.slice A94 (x66).length cap95), _, rfl, HD, HOA, HMK, HL1⟩
        case stop => exact fun _ _ _ _ h _ => h.elim
      · replace HL1 := Lib.hid (ifF hc19 HL1.out)
        have hc19d := decide_eq_false hc19
        have HK20 := Lib.hid hc19
        have hc19n := hc19; try norm_cast at hc19n
        obtain rfl := Option.some.inj HL1.out
        have hm := HM.out; try dsimp only at hm
        replace HM := Lib.hid hm; clear hm
        have fb99 := HP.bx HOA.out (List.Mem.tail _ (List.Mem.tail _ (List.Mem.head _)))
        obtain rfl := Option.some.inj HM.out
        go_wp2_with fail
        try clear fb18 hc19 hc19n hc19d fb99
        refine leave_marks (B := w.heap.size) _ _ HMK.out (fun W' => results_tmp rfl _ _ _) (fun W' hk => ⟨rfl, hk.below HD.out (Nat.le_refl _) (Nat.le_refl _)⟩)
end Go.Proofs.YtccdnokddkpmgaaDoor
set_option linter.all false
set_option maxRecDepth 100000
namespace Go.Proofs.YtccdnokddkpmgaaDoor
open Go.RowKit
attribute [local go_sem] Oper.semAt_some
def walk_From_L1 (F : Nat) (nl : Int) : Nat → (Int) → (List Int) → Option (List Int)
  | 0, _, _ => none
  | g+1, j, v6 => if j < nl then (st v6 j (-1)).bind fun y4 => walk_From_L1 F nl g (wrap64 (j + 1)) (y4) else some (v6)
theorem walk_From_L1_0 (F : Nat) (nl : Int) (v6 : List Int) (j : Int) : walk_From_L1 F nl 0 j v6 = none := by rw [walk_From_L1]
theorem walk_From_L1_s (F g : Nat) (nl : Int) (v6 : List Int) (j : Int) : walk_From_L1 F nl (g+1) j v6 = (if j < nl then (st v6 j (-1)).bind fun y4 => walk_From_L1 F nl g (wrap64 (j + 1)) (y4) else some (v6)) := by rw [walk_From_L1]
def walk_From_L3 (F : Nat)  : List Nat → (List Int) → (List Int) → Option (List Int × List Int)
  | [], v6, v9 => some (v6, v9)
  | x :: xs, v6, v9 => ((ix v6 (x : Int)).bind fun y8 => if y8 < 0 then (ix v9 0).bind fun y10 => (ix v6 y10).bind fun y11 => (st v6 (x : Int) (wrap64 (y11 + 1))).bind fun y9 => (app v9 (x : Int)).bind fun y12 => walk_From_L3 F  xs (y9) (y12) else walk_From_L3 F  xs (v6) (v9))
theorem walk_From_L3_n (F : Nat) (v6 : List Int) (v9 : List Int) : walk_From_L3 F  [] v6 v9 = some (v6, v9) := by rw [walk_From_L3]
theorem walk_From_L3_c (F : Nat) (v6 : List Int) (v9 : List Int) (x : Nat) (xs : List Nat) : walk_From_L3 F  (x :: xs) v6 v9 = (((ix v6 (x : Int)).bind fun y8 => if y8 < 0 then (ix v9 0).bind fun y10 => (ix v6 y10).bind fun y11 => (st v6 (x : Int) (wrap64 (y11 + 1))).bind fun y9 => (app v9 (x : Int)).bind fun y12 => walk_From_L3 F  xs (y9) (y12) else walk_From_L3 F  xs (v6) (v9))) := by rw [walk_From_L3]
def walk_From_L2 (F : Nat) (v8 : List Nat) : Nat → (List Int) → (List Int) → Option (List Int × List Int)
  | 0, _, _ => none
  | g+1, v6, v9 => if 0 < ((v9).length : Int) then (ix v9 0).bind fun y15 => (ix v8 y15).bind fun y16 => (sEach y16).bind fun y14 => (walk_From_L3 F  y14 (v6) (v9)).bind fun o13 => (dr o13.2 1).bind fun y17 => walk_From_L2 F v8 g (o13.1) (y17) else some (v6, v9)
theorem walk_From_L2_0 (F : Nat) (v8 : List Nat) (v6 : List Int) (v9 : List Int) : walk_From_L2 F v8 0 v6 v9 = none := by rw [walk_From_L2]
theorem walk_From_L2_s (F g : Nat) (v8 : List Nat) (v6 : List Int) (v9 : List Int) : walk_From_L2 F v8 (g+1) v6 v9 = (if 0 < ((v9).length : Int) then (ix v9 0).bind fun y15 => (ix v8 y15).bind fun y16 => (sEach y16).bind fun y14 => (walk_From_L3 F  y14 (v6) (v9)).bind fun o13 => (dr o13.2 1).bind fun y17 => walk_From_L2 F v8 g (o13.1) (y17) else some (v6, v9)) := by rw [walk_From_L2]
def walk_From (F : Nat) (v0 : Int) (v1 : List (Int × Int)) (v2 : Int) : Option (List Int × Int) := (mCheck (v0) (v1)).bind fun y1 => (if (y1 != 0) = true then some (([], y1)) else ((core_Within F (v2) (0) ((wrap64 (v0 - 1)))).bind fun y2 => if y2 = true then (mkI v0).bind fun y3 => (walk_From_L1 F (((y3).length : Int)) F (0) (y3)).bind fun o5 => (st o5 v2 0).bind fun y6 => (mBeside (v0) (v1)).bind fun y7 => (walk_From_L2 F (y7) F (y6) ([v2])).bind fun o18 => some ((o18.1, 0)) else some (([], 1))))
end Go.Proofs.YtccdnokddkpmgaaDoor
