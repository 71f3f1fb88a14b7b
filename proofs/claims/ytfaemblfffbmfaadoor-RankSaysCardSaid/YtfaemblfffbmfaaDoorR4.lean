import Derived.Test.YtfaemblfffbmfaaDoorR2
import Derived.Test.YtfaemblfffbmfaaDoorBox
import Derived.Test.YtfaemblfffbmfaaDoorQB
set_option linter.all false
set_option maxRecDepth 100000
namespace Go.Proofs.YtfaemblfffbmfaaDoor
open Go.RowKit
attribute [local go_sem] Oper.semAt_some
def rank_Best_L2 (F : Nat) (v2 : List Int) : List Nat → (Int) → Option (Int)
  | [], v8 => some (v8)
  | x :: xs, v8 => (ix v2 (x : Int)).bind fun y4 => rank_Best_L2 F v2 xs ((wrap64 (v8 + y4)))
theorem rank_Best_L2_n (F : Nat) (v2 : List Int) (v8 : Int) : rank_Best_L2 F v2 [] v8 = some (v8) := by rw [rank_Best_L2]
theorem rank_Best_L2_c (F : Nat) (v2 : List Int) (v8 : Int) (x : Nat) (xs : List Nat) : rank_Best_L2 F v2 (x :: xs) v8 = ((ix v2 (x : Int)).bind fun y4 => rank_Best_L2 F v2 xs ((wrap64 (v8 + y4)))) := by rw [rank_Best_L2]
def rank_Best_L1 (F : Nat) (v1 : List (List Int)) (v2 : List Int) (v10 : Nat) : Nat → (Nat) → (Int) → Option (Int)
  | 0, _, _ => none
  | g+1, j, v6 => if j < v10 then (sEach j).bind fun y6 => (rank_Best_L2 F (v2) y6 (0)).bind fun o5 => ((if v6 < o5 then (rank_may F (v1) (j)).bind fun y8 => if y8 = true then some true else some false else some false).bind fun b7 => if b7 = true then (sInc j 1).bind fun jn => rank_Best_L1 F v1 v2 v10 g jn (o5) else (sInc j 1).bind fun jn => rank_Best_L1 F v1 v2 v10 g jn (v6)) else some (v6)
theorem rank_Best_L1_0 (F : Nat) (v1 : List (List Int)) (v2 : List Int) (v10 : Nat) (v6 : Int) (j : Nat) : rank_Best_L1 F v1 v2 v10 0 j v6 = none := by rw [rank_Best_L1]
theorem rank_Best_L1_s (F g : Nat) (v1 : List (List Int)) (v2 : List Int) (v10 : Nat) (v6 : Int) (j : Nat) : rank_Best_L1 F v1 v2 v10 (g+1) j v6 = (if j < v10 then (sEach j).bind fun y6 => (rank_Best_L2 F (v2) y6 (0)).bind fun o5 => ((if v6 < o5 then (rank_may F (v1) (j)).bind fun y8 => if y8 = true then some true else some false else some false).bind fun b7 => if b7 = true then (sInc j 1).bind fun jn => rank_Best_L1 F v1 v2 v10 g jn (o5) else (sInc j 1).bind fun jn => rank_Best_L1 F v1 v2 v10 g jn (v6)) else some (v6)) := by rw [rank_Best_L1]
def rank_Best (F : Nat) (v0 : Int) (v1 : List (List Int)) (v2 : List Int) : Option (Int × Int) := (rank_worth F (v0) (v1) (v2)).bind fun y1 => (if (y1 != 0) = true then some ((0, y1)) else (sBelow (v0)).bind fun y2 => (sInc y2 1).bind fun y3 => (rank_Best_L1 F (v1) (v2) (y3) F (0) (0)).bind fun o9 => some ((o9, 0)))
set_option maxRecDepth 100000 in
set_option maxHeartbeats 4000000 in
theorem rank_Best_ok {F : Nat} {v0 : Int} {v1 : List (List Int)} {A1 : Option Addr} {v2 : List Int} {A2 : Option Addr} {r : Int × Int} (w : World) (cap1 : Nat) (hr1 : ReadsR w w.heap.size A1 v1) (cap2 : Nat) (hr2 : ReadsI w w.heap.size A2 v2) (h : rank_Best F v0 v1 v2 = some r) :
    Calls Tryd.prog 14 #[.int .i64 v0, .slice A1 v1.length cap1, .slice A2 v2.length cap2] w fun e w' => e = .returned (.tuple #[(.int .i64 r.1), (errV 44 r.2)]) ∧ Below w.heap.size w w' := by
  have HR1 := Lib.hid hr1; clear hr1
  have HR2 := Lib.hid hr2; clear hr2
  have HD := Lib.hid (Below.refl w.heap.size w)
  have HOA := Lib.hid (HP.nil (W := w) (B := w.heap.size))
  unfold rank_Best at h
  have HM := Lib.hid h; clear h
  have HMK := Lib.hid (Marks.nil w.heap.size w)
  refine (callsIn_wide (n := 5)).1 ?_
  refine callsIn_of_wp_marks Tryd.func14 rfl trivial ?_ rfl
  simp only [Tryd.ntmps14, List.size_toArray, List.length_cons, List.length_nil, Nat.reduceAdd, Nat.reduceSub, Array.replicate_succ, Array.replicate_zero, List.push_toArray, List.append_toArray, List.nil_append, List.cons_append]
  refine wpIn_wide.2 ?_
  go_upto_region 1 with (fail)
  have hd : Below w.heap.size w (w.alloc (.cells #[.slice A2 v2.length cap2] 23)) := (Below.refl _ _).alloc (Nat.le_refl _) _
  have ho := owX_ok w 23 (.slice A2 v2.length cap2)
  generalize hW : World.alloc w _ = W1 at *
  clear hW
  replace HOA := Lib.hid (HOA.out.call hd HD.out.size ho); clear ho
  replace HD := Lib.hid (HD.out.trans (hd.mono HD.out.size))
  replace HMK := Lib.hid (HMK.out.nc (NC.of_below hd))
  clear hd
  have fb3 := HP.bx HOA.out (List.Mem.head _)
  obtain ⟨y6, hy4, hm⟩ := obind HM.out
  replace HM := Lib.hid hm; clear hm
  have HC5 := rank_worth_ok W1 cap1 (rdR HD.out HR1.out) cap2 (rdI HD.out HR2.out) hy4
  clear hy4
  replace HC5 := Lib.hid HC5
  go_wp2_with fail
  refine HC5.out.mono ?_; rintro e w' ⟨rfl, rfl⟩
  by_cases hz7 : y6 = 0
  · subst hz7
    try simp only [errV_zero]
    replace HM := Lib.hid (ifF (by decide) HM.out)
    obtain ⟨y11, hy9, hm⟩ := obind HM.out
    replace HM := Lib.hid hm; clear hm
    have HC10 := sBelow_ok W1  hy9
    clear hy9
    replace HC10 := Lib.hid HC10
    obtain ⟨y12, hy13, hm⟩ := obind HM.out
    replace HM := Lib.hid hm; clear hm
    obtain ⟨f14, hy13⟩ := sInc_some hy13; subst hy13
    go_wp2_with fail
    refine HC10.out.mono ?_; rintro e w' ⟨rfl, rfl⟩
    go_wp2_with fail
    try clear fb3 f14
    obtain ⟨o15, ho, hm⟩ := obind HM.out
    replace HM := Lib.hid hm; have HL1 := Lib.hid ho; clear hm ho
    refine wp_loop_marks _ [false, false, false, false, false, false, false, false, false, true, true, true, true, false, false, false, false, false, false, false, false, false, false, true, true, true, true, true, false, true, true, true, true, true, true, true, true, true, true, true, true, true, true, true, true, false] (fun gg fk1 dsk1 wr => ∃ (j17 : Nat) (x16 : Int), (fk1 23) = .int .u64 ((j17 : Nat) : Int) ∧ (fk1 9) = .int .i64 x16 ∧ Hid (Below w.heap.size w wr) ∧ Hid (HP wr w.heap.size [.fl (owX 23 (some ⟨w.heap.size, 0, none⟩) (.slice A2 v2.length cap2))]) ∧ Hid (Marks w.heap.size dsk1 wr) ∧ Hid (rank_Best_L1 F (v1) (v2) ((y11 + 1)) gg j17 x16 = some o15)) F _ (by simp only [agreeB, and_self, true_and]) ⟨0, 0, rfl, rfl, HD, HOA, HMK, HL1⟩ ?round
    case round =>
      intro gk fk1 dsk1 wr hrel _ _ hJ1 _
      obtain ⟨j17, x16, hf18, hf19, HD, HOA, HMK, HL1⟩ := hrel
      simp only [setB, Nat.reduceAdd, hf18, hf19]
      clear hf18 hf19
      rename World => W20
      cases gk with
      | zero => exact absurd ((rank_Best_L1_0 ..).symm.trans HL1.out) (by intro h; cases h)
      | succ g1 =>
        replace HL1 := Lib.hid ((rank_Best_L1_s ..).symm.trans HL1.out)
        by_cases hc21 : j17 < (y11 + 1)
        · replace HL1 := Lib.hid (ifT hc21 HL1.out)
          have HK22 := Lib.hid hc21
          first | (have hc21i : ((j17 : Nat) : Int) < (((y11 + 1) : Nat) : Int) := by omega) | (have hc21i : ¬ ((j17 : Nat) : Int) < (((y11 + 1) : Nat) : Int) := by omega)
          try have hc21id := decide_eq_false hc21i
          go_upto_region 9 with (fail)
          have hd : Below W20.heap.size W20 (W20.alloc (.cells #[.int .i64 (0)] 3)) := (Below.refl _ _).alloc (Nat.le_refl _) _
          have ho := owX_ok W20 3 (.int .i64 (0))
          generalize hW : World.alloc W20 _ = W23 at *
          clear hW
          try clear hc21
          replace HOA := Lib.hid (HOA.out.call hd HD.out.size ho); clear ho
          replace HD := Lib.hid (HD.out.trans (hd.mono HD.out.size))
          replace HMK := Lib.hid (HMK.out.nc (NC.of_below hd))
          clear hd
          obtain ⟨y25, hy26, hm⟩ := obind HL1.out
          replace HL1 := Lib.hid hm; clear hm
          obtain ⟨hlt, hml⟩ := s_of hy26
          have HLT28 := Lib.hid hlt; have HML29 := Lib.hid hml; clear hlt hml hy26
          obtain ⟨o27, ho, hm⟩ := obind HL1.out
          replace HL1 := Lib.hid hm; have HL2 := Lib.hid ho; clear hm ho
          go_wp2_with fail
          refine (each_any _ _).mono ?_; rintro e w' ⟨rfl, rfl⟩
          go_wp2_with fail
          have hd : Below W23.heap.size W23 (W23.alloc (.cells #[.int .u64 (((j17) : Nat) : Int)] 48)) := (Below.refl _ _).alloc (Nat.le_refl _) _
          have ho := owX_ok W23 48 (.int .u64 (((j17) : Nat) : Int))
          generalize hW : World.alloc W23 _ = W30 at *
          clear hW
          replace HOA := Lib.hid (HOA.out.call hd HD.out.size ho); clear ho
          replace HD := Lib.hid (HD.out.trans (hd.mono HD.out.size))
          replace HMK := Lib.hid (HMK.out.nc (NC.of_below hd))
          clear hd
          have HDk33 := HD
          refine (wpIn_wide (n := 5)).1 (wp_each2 (m := j17) (Bs := W23.heap.size) (by omega) HLT28.out rfl (HP.bx HOA.out (List.Mem.head _)) rfl (fun rest W => ∃ (x32 : Int), Hid (Below w.heap.size w W) ∧ Hid (NC W30 W) ∧ Hid (HP W w.heap.size [.fl (owX 48 (some ⟨W23.heap.size, 0, none⟩) (.int .u64 (((j17) : Nat) : Int))), .fl (owX 3 (some ⟨W20.heap.size, 0, none⟩) (.int .i64 (x32))), .fl (owX 23 (some ⟨w.heap.size, 0, none⟩) (.slice A2 v2.length cap2))]) ∧ Hid (rank_Best_L2 F (v2) rest x32 = some o27)) (fun _ _ => False) ?hI_q74 ?hIx_q74 ⟨0, HD, Lib.hid (NC.refl _), HOA, by rw [HML29.out]; exact HL2⟩ ?a1_q74 ?assign_q74 ?body_q74 ?done_q74 ?stop_q74)
          case hI_q74 =>
            rintro rest W W' ⟨x32, hd, hn, hh, hl⟩ hk
            exact ⟨x32, Lib.hid (hk.below hd.out HDk33.out.size (Nat.le_refl _)), Lib.hid (hn.out.keepC hk (Nat.le_refl _)), Lib.hid (hh.out.keepC hk), hl⟩
          case hIx_q74 => exact fun _ _ _ h _ => h
          case assign_q74 =>
            intro l x W K hK
            gi_wp2
            exact hK
          case body_q74 =>
            rintro l34 xn35 rest W36 hx ⟨x32, HD, HN, HOA, HL2⟩ _ _ _ hJ38 hJx39 _ hQ37
            replace HL2 := Lib.hid ((rank_Best_L2_c ..).symm.trans HL2.out)
            have HNB := Lib.hid (NC.refl W36)
            try gi_wp2_with fail
            have fb40 := HP.bx HOA.out (List.Mem.tail _ (List.Mem.head _))
            have fb41 := HP.bx HOA.out (List.Mem.tail _ (List.Mem.tail _ (List.Mem.head _)))
            obtain ⟨y42, hy43, hm⟩ := obind HL2.out
            replace HL2 := Lib.hid hm; clear hm
            obtain ⟨b44, o45, ea46, _, f47, f48, f49⟩ := ReadsI.ix (rdI HD.out HR2.out) hy43
            cases ea46
            try simp only [Nat.zero_add, Nat.add_zero, Int.toNat_natCast, Int.toNat_zero, Int.toNat_one] at f49
            have HY51 := Lib.hid hy43; clear hy43
            obtain ⟨q0, q1, hp, hb⟩ := HP.setBx (its1 := [_]) HOA.out (.int .i64 ((wrap64 (x32 + y42))))
            have HP_ := Lib.hid hp; have HB_ := Lib.hid hb; clear hp hb
            refine wpIn_region_still_tail (open_round l34) 6 (by kernel_rfl) (by kernel_rfl) (by kernel_rfl) ?_; simp only [List.take_succ_cons, List.take_zero, List.drop_succ_cons, List.drop_zero]; repeat still_step; try refine wpStill_nil ?_
            change wpListIn _ _ _ _ _ _ _ (World.drew W36)
            gi_wp2_with fail
            have hp := HP_.out.dr (Dr.one _); have hb := HB_.out.trans ((Dr.one _).below _); clear HP_ HB_
            replace HNB := Lib.hid (HNB.out.trans ((NC.setCell W36 ⟨W20.heap.size, 0, none⟩ (.int .i64 ((wrap64 (x32 + y42))))).trans (NC.drew _)))
            generalize hW : World.drew (World.setCell W36 _ _) = W52 at *
            clear hW
            try clear q0 q1 fb40 fb41 f47 f48 f49
            replace HOA := Lib.hid (show HP W52 w.heap.size [.fl (owX 48 (some ⟨W23.heap.size, 0, none⟩) (.int .u64 (((j17) : Nat) : Int))), .fl (owX 3 (some ⟨W20.heap.size, 0, none⟩) (.int .i64 ((wrap64 (x32 + y42))))), .fl (owX 23 (some ⟨w.heap.size, 0, none⟩) (.slice (some ⟨b44, o45, none⟩) v2.length cap2))] from hp); clear hp
            replace HD := Lib.hid (HD.out.trans hb); clear hb
            gi_wp2_with fail
            exact ⟨HNB.out, HP.bx HOA.out (List.Mem.head _), hJ38 _ ⟨(wrap64 (x32 + y42)), HD, Lib.hid (HN.out.trans HNB.out), HOA, HL2⟩⟩
          case done_q74 =>
            rintro D53 W54 hD ⟨x32, HD, HN, HOA, HL2⟩ hK
            have hov := Option.some.inj ((rank_Best_L2_n ..).symm.trans HL2.out)
            replace HMK := Lib.hid (HMK.out.push HN.out hD HDk33.out.size hK); clear hK hD HN
            subst hov
            have hm := HL1.out; try dsimp only at hm
            replace HL1 := Lib.hid hm; clear hm
            obtain ⟨b55, hb, hm⟩ := obind HL1.out
            replace HL1 := Lib.hid hm; have HB56 := Lib.hid hb; clear hm hb
            have fb57 := HP.bx HOA.out (List.Mem.tail _ (List.Mem.head _))
            by_cases hc58 : x16 < x32
            · replace HB56 := Lib.hid (ifT hc58 HB56.out)
              have HK59 := Lib.hid hc58
              obtain ⟨y62, hy60, hm⟩ := obind HB56.out
              replace HB56 := Lib.hid hm; clear hm
              have HC61 := rank_may_ok W54 cap1 (rdR HD.out HR1.out) hy60
              clear hy60
              replace HC61 := Lib.hid HC61
              go_wp2_with fail
              refine HC61.out.mono ?_; rintro e W63 ⟨rfl, hd⟩
              try clear fb57 hc58
              replace HOA := Lib.hid (HOA.out.below hd)
              replace HD := Lib.hid (HD.out.trans (hd.mono HD.out.size))
              replace HMK := Lib.hid (HMK.out.nc (NC.of_below hd))
              clear hd
              cases y62
              · replace HB56 := Lib.hid (ifF Bool.false_ne_true HB56.out)
                obtain rfl := Option.some.inj HB56.out
                replace HL1 := Lib.hid (ifF (by first | exact Bool.false_ne_true | exact not_false) HL1.out)
                obtain ⟨y64, hy65, hm⟩ := obind HL1.out
                replace HL1 := Lib.hid hm; clear hm
                obtain ⟨f66, hy65⟩ := sInc_some hy65; subst hy65
                go_wp2_with fail
                try clear f66
                replace HOA := Lib.hid (HOA.out.sub (.cons _ (.cons _ (.cons₂ _ .slnil))))
                refine Handed.intro g1 (by omega) ?_
                refine hJ1 _ _ _ ⟨by simp only [agreeB, and_self, true_and], (j17 + 1), x16, rfl, rfl, HD, HOA, HMK, HL1⟩
              · replace HB56 := Lib.hid (ifT rfl HB56.out)
                obtain rfl := Option.some.inj HB56.out
                replace HL1 := Lib.hid (ifT (by first | rfl | trivial) HL1.out)
                have fb67 := HP.bx HOA.out (List.Mem.tail _ (List.Mem.head _))
                obtain ⟨y68, hy69, hm⟩ := obind HL1.out
                replace HL1 := Lib.hid hm; clear hm
                obtain ⟨f70, hy69⟩ := sInc_some hy69; subst hy69
                go_wp2_with fail
                try clear fb67 f70
                replace HOA := Lib.hid (HOA.out.sub (.cons _ (.cons _ (.cons₂ _ .slnil))))
                refine Handed.intro g1 (by omega) ?_
                refine hJ1 _ _ _ ⟨by simp only [agreeB, and_self, true_and], (j17 + 1), x32, rfl, rfl, HD, HOA, HMK, HL1⟩
            · replace HB56 := Lib.hid (ifF hc58 HB56.out)
              have hc58d := decide_eq_false hc58
              have HK59 := Lib.hid hc58
              obtain rfl := Option.some.inj HB56.out
              replace HL1 := Lib.hid (ifF (by first | exact Bool.false_ne_true | exact not_false) HL1.out)
              obtain ⟨y71, hy72, hm⟩ := obind HL1.out
              replace HL1 := Lib.hid hm; clear hm
              obtain ⟨f73, hy72⟩ := sInc_some hy72; subst hy72
              go_wp2_with fail
              try clear fb57 hc58 hc58d f73
              replace HOA := Lib.hid (HOA.out.sub (.cons _ (.cons _ (.cons₂ _ .slnil))))
              refine Handed.intro g1 (by omega) ?_
              refine hJ1 _ _ _ ⟨by simp only [agreeB, and_self, true_and], (j17 + 1), x16, rfl, rfl, HD, HOA, HMK, HL1⟩
          case stop_q74 => exact fun _ _ _ _ h _ => h.elim
        · replace HL1 := Lib.hid (ifF hc21 HL1.out)
          have hc21d := decide_eq_false hc21
          have HK22 := Lib.hid hc21
          first | (have hc21i : ((j17 : Nat) : Int) < (((y11 + 1) : Nat) : Int) := by omega) | (have hc21i : ¬ ((j17 : Nat) : Int) < (((y11 + 1) : Nat) : Int) := by omega)
          try have hc21id := decide_eq_false hc21i
          obtain rfl := Option.some.inj HL1.out
          have hm := HM.out; try dsimp only at hm
          replace HM := Lib.hid hm; clear hm
          obtain rfl := Option.some.inj HM.out
          go_wp2_with fail
          try clear hc21 hc21d
          refine leave_marks (B := w.heap.size) _ _ HMK.out (fun W' => results_tmp2 rfl _ _ _) (fun W' hk => ⟨rfl, hk.below HD.out (Nat.le_refl _) (Nat.le_refl _)⟩)
  · try rw [errV_pos _ hz7]
    have HZ8 := Lib.hid hz7; clear hz7
    replace HM := Lib.hid (ifT (bne_iff_ne.2 HZ8.out) HM.out)
    obtain rfl := Option.some.inj HM.out
    go_wp2_with fail
    try clear fb3
    refine leave_marks (B := w.heap.size) _ _ HMK.out (fun W' => results_tmp2 rfl _ _ _) (fun W' hk => ⟨(by first | (rw [errV_pos _ HZ8.out]; rfl) | rw [errV_pos _ HZ8.out]), hk.below HD.out (Nat.le_refl _) (Nat.le_refl _)⟩)
end Go.Proofs.YtfaemblfffbmfaaDoor
