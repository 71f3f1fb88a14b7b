import Derived.Test.YtecllcpjjllogaaDoorBka
/- TopBook -/
set_option linter.all false
set_option maxRecDepth 100000
namespace Go.Proofs.YtecllcpjjllogaaDoor
open Go.RowKit Go.Shelf Pl
attribute [local go_sem] Oper.semAt_some
set_option maxRecDepth 100000 in
set_option maxHeartbeats 8000000 in
theorem topbook_walk {b : BkT} {xx x e1 : Int} {ls : List (Int × Int)} {steps : List (List Int)} {A0 : Option Addr} {cap0 : Nat} {i j : Int} (w : World) (hop : OpB w.heap.size w) (hr : ReadsR w w.heap.size A0 steps)
    (hp : LT_put_L1 300 steps 300 newB 0 = some (b, xx)) (ho : mOpen b.2.1 = some (0, b.2.2, b)) (hl : brambleweir_book_Book_Lines 300 b.1 = some ls) (hs : SE_Lines 300 ls ls = some true)
    (hf : brambleweir_book_Book_Far 300 b.1 i j = some (x, e1)) (hx : (e1 ≠ 0 → x = 0) ∧ (e1 = 0 → ¬ 24 < ls.length → (0 ≤ j ∧ j ≤ 7) ∧ ∃ d, walk_From 300 8 ls i = some (d, 0) ∧ d.length = 8 ∧ d.getD j.toNat 0 = x)) :
    Calls Tryd.prog 3 #[.slice A0 steps.length cap0, .int .i64 i, .int .i64 j] w fun e w' => e = .returned (.bool true) ∧ Below w.heap.size w w' := by
  have HTB := Lib.hid hop.tab.1
  have HOP := Lib.hid hop; clear hop
  have HR0 := Lib.hid hr; clear hr
  have HL1 := Lib.hid hp; have HO := Lib.hid ho; have HL := Lib.hid hl; have HS := Lib.hid hs; have HF := Lib.hid hf; have HX := Lib.hid hx
  clear hp ho hl hs hf hx
  have HD := Lib.hid (Below.refl w.heap.size w)
  have hemp := join21_text
  have HJ21 := Lib.hid join21
  generalize joinB newB 2 1 = b21 at *
  go_enter Tryd.func3, Tryd.ntmps3
  go_wp2_with fail
  refine (bkNew_ok w).mono ?_; rintro e1_ W1 ⟨g0, rfl, hp, hd⟩
  have HOA := Lib.hid (HP.callIt (its := []) HP.nil hd HD.out.size hp)
  replace HD := Lib.hid (HD.out.trans (hd.mono HD.out.size)); clear hd hp
  go_wp2_with fail
  refine (mJoin_ok (its1 := []) W1 (HOP.out.go HD.out).tab HOA.out HD.out.size HJ21.out).mono ?_; rintro e2_ W2 ⟨rfl, hp, hd⟩
  replace HOA := Lib.hid hp
  replace HD := Lib.hid (HD.out.trans hd); clear hd hp
  rw [errV_zero]
  go_wp2_with fail
  refine (bkText_ok (its1 := []) W2 HOA.out HD.out.size).mono ?_; rintro e3_ W3 ⟨rfl, hp, hd⟩
  replace HD := Lib.hid (HD.out.trans hd); clear hd hp HOA
  go_wp2_with fail
  refine (bkNew_ok W3).mono ?_; rintro e4_ W4 ⟨g7, rfl, hp, hd⟩
  have HOA := Lib.hid (show HP W4 w.heap.size [bkI g7 newB] from HP.callIt (its := []) HP.nil hd HD.out.size hp)
  replace HD := Lib.hid (HD.out.trans (hd.mono HD.out.size)); clear hd hp
  clear hemp HJ21
  go_wp2_with fail
  go_loopg [8] 300 (fun gg ux12 wr => ∃ (x10 : BkT) (x11 : Int), ux12 = .int .i64 x11 ∧ Hid (Below w.heap.size w wr) ∧ Hid (HP wr w.heap.size [(bkI g7 (x10))]) ∧ Hid (LT_put_L1 300 (steps) gg x10 x11 = some (b, xx)))
  case atStart => exact ⟨newB, 0, rfl, HD, HOA, HL1⟩
  case round =>
    obtain ⟨x10, x11, rfl, HD, HOA, HL1⟩ := hrel
    rename World => W13
    cases gk with
    | zero => exact absurd ((LT_put_L1_0 ..).symm.trans HL1.out) (by intro h; cases h)
    | succ g1 =>
      replace HL1 := Lib.hid ((LT_put_L1_s ..).symm.trans HL1.out)
      obtain ⟨b14, hb, hm⟩ := obind HL1.out
      replace HL1 := Lib.hid hm; have HB15 := Lib.hid hb; clear hm hb
      by_cases hc16 : x11 < ((steps).length : Int)
      · replace HB15 := Lib.hid (ifT hc16 HB15.out)
        have HK17 := Lib.hid hc16
        by_cases hc18 : x11 < 60
        · replace HB15 := Lib.hid (ifT hc18 HB15.out)
          have HK19 := Lib.hid hc18
          obtain rfl := Option.some.inj HB15.out
          replace HL1 := Lib.hid (ifT (by first | rfl | trivial) HL1.out)
          obtain ⟨y20, hy21, hm⟩ := obind HL1.out
          replace HL1 := Lib.hid hm; clear hm
          obtain ⟨b22, o23, A29, cap30, ea24, _, f25, f26, f27, hrr, hrc⟩ := ReadsR.ixc (rdR HD.out HR0.out) hy21
          cases ea24
          have HR31c := Lib.hid hrc; clear hrc
          try simp only [Nat.zero_add, Nat.add_zero, Int.toNat_natCast, Int.toNat_zero, Int.toNat_one] at f27
          have HR31 := Lib.hid hrr; clear hrr
          have HY32 := Lib.hid hy21; clear hy21
          rcases Bool.eq_false_or_eq_true (((y20).length : Int) != 3) with hc33 | hc33
          · replace HL1 := Lib.hid (ifT hc33 HL1.out)
            have HK34 := Lib.hid hc33
            go_upto_region 7 with (fail)
            try clear hc16 hc18 f25 f26 f27 hc33
            go_wp2_with fail
            go_roundg g1
            case measure => omega
            case rel => exact ⟨x10, (wrap64 (x11 + 1)), rfl, HD, HOA, HL1⟩
          · replace HL1 := Lib.hid (ifF (bF hc33) HL1.out)
            have HK34 := Lib.hid hc33
            obtain ⟨y35, hy36, hm⟩ := obind HL1.out
            replace HL1 := Lib.hid hm; clear hm
            obtain ⟨b37, o38, ea39, _, f40, f41, f42⟩ := ReadsI.ix HR31.out hy36
            cases ea39
            try simp only [Nat.zero_add, Nat.add_zero, Int.toNat_natCast, Int.toNat_zero, Int.toNat_one] at f42
            have f41n := f41; try norm_cast at f41n
            have HY44 := Lib.hid hy36; clear hy36
            rcases Bool.eq_false_or_eq_true (y35 == 0) with hc45 | hc45
            · replace HL1 := Lib.hid (ifT hc45 HL1.out)
              have HK46 := Lib.hid hc45
              try go_wp2_with fail
              try clear hc16 hc18 f25 f26 f27 hc33 f40 f41 f42 f41n hc45
              obtain ⟨y47, hy48, hm⟩ := obind HL1.out
              replace HL1 := Lib.hid hm; clear hm
              obtain ⟨b49, o50, ea51, _, f52, f53, f54⟩ := ReadsI.ix HR31.out hy48
              cases ea51
              try simp only [Nat.zero_add, Nat.add_zero, Int.toNat_natCast, Int.toNat_zero, Int.toNat_one] at f54
              have f53n := f53; try norm_cast at f53n
              have HY56 := Lib.hid hy48; clear hy48
              obtain ⟨y57, hy58, hm⟩ := obind HL1.out
              replace HL1 := Lib.hid hm; clear hm
              obtain ⟨b59, o60, ea61, _, f62, f63, f64⟩ := ReadsI.ix HR31.out hy58
              cases ea61
              try simp only [Nat.zero_add, Nat.add_zero, Int.toNat_natCast, Int.toNat_zero, Int.toNat_one, Int.reduceToNat] at f64
              have f63n := f63; try norm_cast at f63n
              have HY66 := Lib.hid hy58; clear hy58
              try (have f52_r := cell_regrown f52)
              try (have f53_r := cell_regrown f53)
              try (have f54_r := cell_regrown f54)
              try (have f53n_r := cell_regrown f53n)
              try (have f62_r := cell_regrown f62)
              try (have f63_r := cell_regrown f63)
              try (have f64_r := cell_regrown f64)
              try (have f63n_r := cell_regrown f63n)
              refine wp_region_quiet_tail 7 (by kernel_rfl) (by kernel_rfl) ?_
              dsimp only [List.take, List.drop]
              repeat (refine wpQH_step (fun K hK => ?_); go_simp; first | (refine hK _ ?_; clear hK K) | (apply Exists.intro; refine ⟨fun _ => ?_, hK _ ?_⟩; (fail); clear hK K))
              refine wpQH_nil ?_
              intro _ hw_
              obtain ⟨⟨dq, osq⟩, hw_⟩ := hw_
              subst hw_
              have hd := below_regrown W13 dq osq
              generalize Go.Sort.grow (redrawn W13 _) _ = W71 at *
              try clear f52_r f53_r f54_r f53n_r f62_r f63_r f64_r f63n_r
              try clear f52 f53 f54 f53n f62 f63 f64 f63n
              replace HOA := Lib.hid (HOA.out.below hd)
              replace HR31 := Lib.hid (rdI hd HR31.out)
              replace HD := Lib.hid (HD.out.trans (hd.mono HD.out.size))
              clear hd
              obtain ⟨⟨y75, z76⟩, hy72, hm⟩ := obind HL1.out
              dsimp only at hm
              replace HL1 := Lib.hid hm; clear hm
              have HC73 := mJoin_ok2 (its1 := []) W71 (HTB.out.at_.go HD.out) HOA.out HD.out.size hy72; clear hy72
              replace HC73 := Lib.hid HC73
              go_wp2_with fail
              refine HC73.out.mono ?_; rintro e W74 ⟨rfl, hp, hb⟩
              replace HOA := Lib.hid (show HP W74 w.heap.size [(bkI g7 (z76))] from hp); clear hp
              replace HD := Lib.hid (HD.out.trans hb); clear hb
              go_wp2_with fail
              go_roundg g1
              case measure => omega
              case rel => exact ⟨z76, (wrap64 (x11 + 1)), rfl, HD, HOA, HL1⟩
            · replace HL1 := Lib.hid (ifF (bF hc45) HL1.out)
              have HK46 := Lib.hid hc45
              try go_wp2_with fail
              try clear hc16 hc18 f25 f26 f27 hc33 f40 f41 f42 f41n hc45
              obtain ⟨y77, hy78, hm⟩ := obind HL1.out
              replace HL1 := Lib.hid hm; clear hm
              obtain ⟨b79, o80, ea81, _, f82, f83, f84⟩ := ReadsI.ix HR31.out hy78
              cases ea81
              try simp only [Nat.zero_add, Nat.add_zero, Int.toNat_natCast, Int.toNat_zero, Int.toNat_one] at f84
              have f83n := f83; try norm_cast at f83n
              have HY86 := Lib.hid hy78; clear hy78
              obtain ⟨y87, hy88, hm⟩ := obind HL1.out
              replace HL1 := Lib.hid hm; clear hm
              obtain ⟨b89, o90, ea91, _, f92, f93, f94⟩ := ReadsI.ix HR31.out hy88
              cases ea91
              try simp only [Nat.zero_add, Nat.add_zero, Int.toNat_natCast, Int.toNat_zero, Int.toNat_one, Int.reduceToNat] at f94
              have f93n := f93; try norm_cast at f93n
              have HY96 := Lib.hid hy88; clear hy88
              try (have f82_r := cell_regrown f82)
              try (have f83_r := cell_regrown f83)
              try (have f84_r := cell_regrown f84)
              try (have f83n_r := cell_regrown f83n)
              try (have f92_r := cell_regrown f92)
              try (have f93_r := cell_regrown f93)
              try (have f94_r := cell_regrown f94)
              try (have f93n_r := cell_regrown f93n)
              refine wp_region_quiet_tail 7 (by kernel_rfl) (by kernel_rfl) ?_
              dsimp only [List.take, List.drop]
              repeat (refine wpQH_step (fun K hK => ?_); go_simp; first | (refine hK _ ?_; clear hK K) | (apply Exists.intro; refine ⟨fun _ => ?_, hK _ ?_⟩; (fail); clear hK K))
              refine wpQH_nil ?_
              intro _ hw_
              obtain ⟨⟨dq, osq⟩, hw_⟩ := hw_
              subst hw_
              have hd := below_regrown W13 dq osq
              generalize Go.Sort.grow (redrawn W13 _) _ = W101 at *
              try clear f82_r f83_r f84_r f83n_r f92_r f93_r f94_r f93n_r
              try clear f82 f83 f84 f83n f92 f93 f94 f93n
              replace HOA := Lib.hid (HOA.out.below hd)
              replace HR31 := Lib.hid (rdI hd HR31.out)
              replace HD := Lib.hid (HD.out.trans (hd.mono HD.out.size))
              clear hd
              obtain ⟨⟨y105, z106⟩, hy102, hm⟩ := obind HL1.out
              dsimp only at hm
              replace HL1 := Lib.hid hm; clear hm
              have HC103 := mCut_ok2 (its1 := []) W101 (HTB.out.at_.go HD.out) HOA.out HD.out.size hy102; clear hy102
              replace HC103 := Lib.hid HC103
              go_wp2_with fail
              refine HC103.out.mono ?_; rintro e W104 ⟨rfl, hp, hb⟩
              replace HOA := Lib.hid (show HP W104 w.heap.size [(bkI g7 (z106))] from hp); clear hp
              replace HD := Lib.hid (HD.out.trans hb); clear hb
              go_wp2_with fail
              go_roundg g1
              case measure => omega
              case rel => exact ⟨z106, (wrap64 (x11 + 1)), rfl, HD, HOA, HL1⟩
        · replace HB15 := Lib.hid (ifF hc18 HB15.out)
          have hc18d := decide_eq_false hc18
          have HK19 := Lib.hid hc18
          obtain rfl := Option.some.inj HB15.out
          replace HL1 := Lib.hid (ifF (by first | exact Bool.false_ne_true | exact not_false) HL1.out)
          have hbx := Prod.mk.inj (Option.some.inj HL1.out)
          obtain ⟨hbx, hxx⟩ := hbx
          subst hbx hxx
          go_wp2_with fail
          try clear hc16 hc18 hc18d
          refine (bkText_ok (its1 := []) W13 HOA.out HD.out.size).mono ?_; rintro e3 W3 ⟨rfl, hp, hd⟩
          replace HOA := Lib.hid hp
          replace HD := Lib.hid (HD.out.trans hd); clear hd hp
          go_wp2_with fail
          refine (mOpen_ok W3 ((HOP.out.go HD.out).mono HD.out.size) HO.out).mono ?_; rintro e4 W4 ⟨hd, (⟨_, g2, rfl, hp⟩ | ⟨hne, _⟩)⟩
          case inr => exact absurd rfl hne
          replace HOA := Lib.hid (show HP W4 w.heap.size [bkI g2 x10, bkI g7 x10] from HP.callIt HOA.out hd HD.out.size hp)
          replace HD := Lib.hid (HD.out.trans (hd.mono HD.out.size)); clear hd hp
          try clear HL1 HR0 HTB hc16 hc18 hc18d
          go_wp2_with fail
          refine (brambleweir_book_Book_Lines_ok W4 (HP.rdBk (its1 := []) HOA.out) HL.out).mono ?_; rintro e7 W7 ⟨V7, rfl, ho, hd⟩
          replace HOA := Lib.hid (HOA.out.call hd HD.out.size ho)
          replace HD := Lib.hid (HD.out.trans (hd.mono HD.out.size)); clear hd ho
          go_wp2_with fail
          refine (brambleweir_book_Book_Lines_ok W7 (HP.rdBk (its1 := [_, _]) HOA.out) HL.out).mono ?_; rintro e8 W8 ⟨V8, rfl, ho, hd⟩
          replace HOA := Lib.hid (HOA.out.call hd HD.out.size ho)
          replace HD := Lib.hid (HD.out.trans (hd.mono HD.out.size)); clear hd ho
          obtain ⟨A7, c7, rfl, r7⟩ := HP.open_L HOA.out (List.Mem.tail _ (List.Mem.head _))
          obtain ⟨A8, c8, rfl, r8⟩ := HP.open_L HOA.out (List.Mem.head _)
          go_wp2_with fail
          refine (SE_Lines_ok W8 c7 r7 c8 r8 HS.out).mono ?_; rintro e9 W9 ⟨rfl, hd⟩
          replace HOA := Lib.hid (HOA.out.dr hd)
          replace HD := Lib.hid (HD.out.trans (hd.below _)); clear hd r7 r8
          replace HOA := Lib.hid (show HP W9 w.heap.size [bkI g2 x10, bkI g7 x10] from HOA.out.sub (.cons _ (.cons _ (List.Sublist.refl _))))
          go_wp2_with fail
          refine (brambleweir_book_Book_Far_ok W9 (HP.rdBk (its1 := [_]) HOA.out) HF.out).mono ?_; rintro e10 W10 ⟨rfl, hd⟩
          replace HOA := Lib.hid (HOA.out.below hd)
          replace HD := Lib.hid (HD.out.trans (hd.mono HD.out.size)); clear hd
          go_wp2_with fail
          refine (brambleweir_book_Book_Far_ok W10 (HP.rdBk (its1 := []) HOA.out) HF.out).mono ?_; rintro e11 W11 ⟨rfl, hd⟩
          replace HOA := Lib.hid (HOA.out.below hd)
          replace HD := Lib.hid (HD.out.trans (hd.mono HD.out.size)); clear hd
          have hself : (x != x) = false := by simp
          by_cases he : e1 = 0
          · subst he
            rw [errV_zero]
            go_wp2_with fail
            go_quiet (fail)
            go_wp2_with fail
            refine (brambleweir_book_Book_Lines_ok _ (HP.rdBk (its1 := [_]) (HOA.out.dr ⟨_, rfl⟩)) HL.out).mono ?_; rintro e12 W12 ⟨V12, rfl, ho, hd⟩
            replace HD := Lib.hid (HD.out.trans (Dr.below (⟨nq, rfl⟩ : Dr W11 (W11.drewN nq)) w.heap.size))
            replace HOA := Lib.hid ((HOA.out.dr (⟨nq, rfl⟩ : Dr W11 (W11.drewN nq))).call hd HD.out.size ho)
            replace HD := Lib.hid (HD.out.trans (hd.mono HD.out.size)); clear hd ho
            obtain ⟨A12, c12, rfl, r12⟩ := HP.open_L HOA.out (List.Mem.head _)
            clear r12
            by_cases h24 : 24 < ls.length
            · have d24 := decide_eq_true (show (24 : Int) < (ls.length : Int) by omega)
              go_wp2_with fail
              go_ret
              exact ⟨rfl, HD.out⟩
            · have d24 := decide_eq_false (show ¬ (24 : Int) < (ls.length : Int) by omega)
              obtain ⟨⟨j0, j7⟩, d, f1, f2, f3⟩ := HX.out.2 (by first | trivial | rfl) h24
              have HF1 := Lib.hid f1; clear f1
              replace HOA := Lib.hid (show HP W12 w.heap.size [bkI g2 x10, bkI g7 x10] from HOA.out.sub (.cons _ (List.Sublist.refl _)))
              go_wp2_with fail
              refine (brambleweir_book_Book_Lines_ok W12 (HP.rdBk (its1 := [_]) HOA.out) HL.out).mono ?_; rintro e13 W13_ ⟨V13, rfl, ho, hd⟩
              replace HOA := Lib.hid (HOA.out.call hd HD.out.size ho)
              replace HD := Lib.hid (HD.out.trans (hd.mono HD.out.size)); clear hd ho
              obtain ⟨A13, c13, rfl, r13⟩ := HP.open_L HOA.out (List.Mem.head _)
              go_wp2_with fail
              refine (walk_From_ok W13_ c13 r13 HF1.out).mono ?_; rintro e14 W14_ ⟨V14, rfl, ho, hd⟩
              replace HOA := Lib.hid (HOA.out.call hd HD.out.size ho)
              replace HD := Lib.hid (HD.out.trans (hd.mono HD.out.size)); clear hd ho r13
              obtain ⟨A14, c14, rfl, r14⟩ := HP.open_I HOA.out (List.Mem.head _)
              rw [errV_zero, f2]
              obtain ⟨j', rfl⟩ := Int.eq_ofNat_of_zero_le j0
              have hj8 : j' < d.length := by omega
              have hix : ix d (j' : Int) = some x := by rw [← f3, Int.toNat_natCast]; exact ix_at (i := j') 0 (by omega)
              obtain ⟨bb, oo, ea, _, ff1, ff2, ff3⟩ := ReadsI.ix r14 hix
              cases ea
              try simp only [Nat.zero_add, Nat.add_zero, Int.toNat_natCast] at ff3
              have hin := intop_dec (t := true) (n := (j' : Int)) (a := 0) (b := 7) (decide_eq_true ⟨j0, j7⟩)
              have HIN := Lib.hid hin; clear hin
              have hxx : (x == x) = true := beq_self_eq_true _
              have j0' : (0 : Int) ≤ (j' : Int) := j0
              have j8' : (j' : Int) < 8 := by omega
              have j8 : (j' : Int) + 1 ≤ 8 := by omega
              go_wp2_with fail
              refine (HIN.out _).mono ?_; rintro e15 W15_ ⟨rfl, rfl⟩
              go_wp2_with fail
              go_ret
              exact ⟨rfl, HD.out⟩
          · rw [errV_pos _ he]
            have hx0 : (x == 0) = true := by rw [HX.out.1 he]; rfl
            go_wp2_with fail
            go_quiet (fail)
            go_wp2_with fail
            go_ret
            exact ⟨rfl, HD.out.trans (Dr.below ⟨_, rfl⟩ _)⟩
      · replace HB15 := Lib.hid (ifF hc16 HB15.out)
        have hc16d := decide_eq_false hc16
        have HK17 := Lib.hid hc16
        obtain rfl := Option.some.inj HB15.out
        replace HL1 := Lib.hid (ifF (by first | exact Bool.false_ne_true | exact not_false) HL1.out)
        have hbx := Prod.mk.inj (Option.some.inj HL1.out)
        obtain ⟨hbx, hxx⟩ := hbx
        subst hbx hxx
        go_wp2_with fail
        try clear hc16 hc16d
        refine (bkText_ok (its1 := []) W13 HOA.out HD.out.size).mono ?_; rintro e3 W3 ⟨rfl, hp, hd⟩
        replace HOA := Lib.hid hp
        replace HD := Lib.hid (HD.out.trans hd); clear hd hp
        go_wp2_with fail
        refine (mOpen_ok W3 ((HOP.out.go HD.out).mono HD.out.size) HO.out).mono ?_; rintro e4 W4 ⟨hd, (⟨_, g2, rfl, hp⟩ | ⟨hne, _⟩)⟩
        case inr => exact absurd rfl hne
        replace HOA := Lib.hid (show HP W4 w.heap.size [bkI g2 x10, bkI g7 x10] from HP.callIt HOA.out hd HD.out.size hp)
        replace HD := Lib.hid (HD.out.trans (hd.mono HD.out.size)); clear hd hp
        try clear HL1 HR0 HTB hc16 hc16d
        go_wp2_with fail
        refine (brambleweir_book_Book_Lines_ok W4 (HP.rdBk (its1 := []) HOA.out) HL.out).mono ?_; rintro e7 W7 ⟨V7, rfl, ho, hd⟩
        replace HOA := Lib.hid (HOA.out.call hd HD.out.size ho)
        replace HD := Lib.hid (HD.out.trans (hd.mono HD.out.size)); clear hd ho
        go_wp2_with fail
        refine (brambleweir_book_Book_Lines_ok W7 (HP.rdBk (its1 := [_, _]) HOA.out) HL.out).mono ?_; rintro e8 W8 ⟨V8, rfl, ho, hd⟩
        replace HOA := Lib.hid (HOA.out.call hd HD.out.size ho)
        replace HD := Lib.hid (HD.out.trans (hd.mono HD.out.size)); clear hd ho
        obtain ⟨A7, c7, rfl, r7⟩ := HP.open_L HOA.out (List.Mem.tail _ (List.Mem.head _))
        obtain ⟨A8, c8, rfl, r8⟩ := HP.open_L HOA.out (List.Mem.head _)
        go_wp2_with fail
        refine (SE_Lines_ok W8 c7 r7 c8 r8 HS.out).mono ?_; rintro e9 W9 ⟨rfl, hd⟩
        replace HOA := Lib.hid (HOA.out.dr hd)
        replace HD := Lib.hid (HD.out.trans (hd.below _)); clear hd r7 r8
        replace HOA := Lib.hid (show HP W9 w.heap.size [bkI g2 x10, bkI g7 x10] from HOA.out.sub (.cons _ (.cons _ (List.Sublist.refl _))))
        go_wp2_with fail
        refine (brambleweir_book_Book_Far_ok W9 (HP.rdBk (its1 := [_]) HOA.out) HF.out).mono ?_; rintro e10 W10 ⟨rfl, hd⟩
        replace HOA := Lib.hid (HOA.out.below hd)
        replace HD := Lib.hid (HD.out.trans (hd.mono HD.out.size)); clear hd
        go_wp2_with fail
        refine (brambleweir_book_Book_Far_ok W10 (HP.rdBk (its1 := []) HOA.out) HF.out).mono ?_; rintro e11 W11 ⟨rfl, hd⟩
        replace HOA := Lib.hid (HOA.out.below hd)
        replace HD := Lib.hid (HD.out.trans (hd.mono HD.out.size)); clear hd
        have hself : (x != x) = false := by simp
        by_cases he : e1 = 0
        · subst he
          rw [errV_zero]
          go_wp2_with fail
          go_quiet (fail)
          go_wp2_with fail
          refine (brambleweir_book_Book_Lines_ok _ (HP.rdBk (its1 := [_]) (HOA.out.dr ⟨_, rfl⟩)) HL.out).mono ?_; rintro e12 W12 ⟨V12, rfl, ho, hd⟩
          replace HD := Lib.hid (HD.out.trans (Dr.below (⟨nq, rfl⟩ : Dr W11 (W11.drewN nq)) w.heap.size))
          replace HOA := Lib.hid ((HOA.out.dr (⟨nq, rfl⟩ : Dr W11 (W11.drewN nq))).call hd HD.out.size ho)
          replace HD := Lib.hid (HD.out.trans (hd.mono HD.out.size)); clear hd ho
          obtain ⟨A12, c12, rfl, r12⟩ := HP.open_L HOA.out (List.Mem.head _)
          clear r12
          by_cases h24 : 24 < ls.length
          · have d24 := decide_eq_true (show (24 : Int) < (ls.length : Int) by omega)
            go_wp2_with fail
            go_ret
            exact ⟨rfl, HD.out⟩
          · have d24 := decide_eq_false (show ¬ (24 : Int) < (ls.length : Int) by omega)
            obtain ⟨⟨j0, j7⟩, d, f1, f2, f3⟩ := HX.out.2 (by first | trivial | rfl) h24
            have HF1 := Lib.hid f1; clear f1
            replace HOA := Lib.hid (show HP W12 w.heap.size [bkI g2 x10, bkI g7 x10] from HOA.out.sub (.cons _ (List.Sublist.refl _)))
            go_wp2_with fail
            refine (brambleweir_book_Book_Lines_ok W12 (HP.rdBk (its1 := [_]) HOA.out) HL.out).mono ?_; rintro e13 W13_ ⟨V13, rfl, ho, hd⟩
            replace HOA := Lib.hid (HOA.out.call hd HD.out.size ho)
            replace HD := Lib.hid (HD.out.trans (hd.mono HD.out.size)); clear hd ho
            obtain ⟨A13, c13, rfl, r13⟩ := HP.open_L HOA.out (List.Mem.head _)
            go_wp2_with fail
            refine (walk_From_ok W13_ c13 r13 HF1.out).mono ?_; rintro e14 W14_ ⟨V14, rfl, ho, hd⟩
            replace HOA := Lib.hid (HOA.out.call hd HD.out.size ho)
            replace HD := Lib.hid (HD.out.trans (hd.mono HD.out.size)); clear hd ho r13
            obtain ⟨A14, c14, rfl, r14⟩ := HP.open_I HOA.out (List.Mem.head _)
            rw [errV_zero, f2]
            obtain ⟨j', rfl⟩ := Int.eq_ofNat_of_zero_le j0
            have hj8 : j' < d.length := by omega
            have hix : ix d (j' : Int) = some x := by rw [← f3, Int.toNat_natCast]; exact ix_at (i := j') 0 (by omega)
            obtain ⟨bb, oo, ea, _, ff1, ff2, ff3⟩ := ReadsI.ix r14 hix
            cases ea
            try simp only [Nat.zero_add, Nat.add_zero, Int.toNat_natCast] at ff3
            have hin := intop_dec (t := true) (n := (j' : Int)) (a := 0) (b := 7) (decide_eq_true ⟨j0, j7⟩)
            have HIN := Lib.hid hin; clear hin
            have hxx : (x == x) = true := beq_self_eq_true _
            have j0' : (0 : Int) ≤ (j' : Int) := j0
            have j8' : (j' : Int) < 8 := by omega
            have j8 : (j' : Int) + 1 ≤ 8 := by omega
            go_wp2_with fail
            refine (HIN.out _).mono ?_; rintro e15 W15_ ⟨rfl, rfl⟩
            go_wp2_with fail
            go_ret
            exact ⟨rfl, HD.out⟩
        · rw [errV_pos _ he]
          have hx0 : (x == 0) = true := by rw [HX.out.1 he]; rfl
          go_wp2_with fail
          go_quiet (fail)
          go_wp2_with fail
          go_ret
          exact ⟨rfl, HD.out.trans (Dr.below ⟨_, rfl⟩ _)⟩
theorem topBook_any (w : World) (hop : OpB w.heap.size w) (A : Option Addr) (cap : Nat) (l : List (List Int)) (hr : ReadsR w w.heap.size A l ∧ l.length ≤ maxLen ∧ ∀ x ∈ l, x.length ≤ maxLen ∧ ∀ n ∈ x, (Lit.int .i64 n).wf = true) (i : Int) (_ : (Lit.int .i64 i).wf = true) (j : Int) (_ : (Lit.int .i64 j).wf = true) :
    Calls Tryd.prog 3 #[.slice A l.length cap, .int .i64 i, .int .i64 j] w fun e w' => e = .returned (.bool true) ∧ Below w.heap.size w w' := by
  obtain ⟨g1, g2⟩ := goH_run (l.take 60) newB new_inv
  obtain ⟨xx, hp⟩ := putT_ev l
  obtain ⟨r, f1, f2, f3⟩ := far_from g2 i j
  exact topbook_walk w hop hr.1 hp (open_whole g1) (lines_ev g2) (se_same _ (by have := linesOf_le (goH (l.take 60) newB).2.1; omega)) (x := r.1) (e1 := r.2) f1 ⟨f2, f3⟩
end Go.Proofs.YtecllcpjjllogaaDoor
