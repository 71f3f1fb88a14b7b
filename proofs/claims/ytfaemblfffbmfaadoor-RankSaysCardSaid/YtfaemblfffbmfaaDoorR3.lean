import Derived.Test.YtfaemblfffbmfaaDoorR2
import Derived.Test.YtfaemblfffbmfaaDoorBox
import Derived.Test.YtfaemblfffbmfaaDoorQB
set_option linter.all false
set_option maxRecDepth 100000
namespace Go.Proofs.YtfaemblfffbmfaaDoor
open Go.RowKit
attribute [local go_sem] Oper.semAt_some
def brambleweir_rank_Fair_1 (F : Nat) (v1000 : List (List Int)) (v1001 : Nat) (v0 : Int) : Option (Bool) := (sWith (v1001) (v0)).bind fun y1 => (rank_may F (v1000) (y1)).bind fun y2 => some (y2)
set_option maxRecDepth 100000 in
set_option maxHeartbeats 4000000 in
theorem brambleweir_rank_Fair_1_ok {F : Nat} {v0 : Int} {v1000 : List (List Int)} {g1000 : Nat} {A1000 : Option Addr} {v1001 : Nat} {g1001 : Nat} {r : Bool} (w : World) (cap1000 : Nat) (hr1000 : ReadsR w w.heap.size A1000 v1000) (hx1000 : w.cell? ⟨g1000, 0, none⟩ = some (.slice A1000 v1000.length cap1000)) (hx1001 : w.cell? ⟨g1001, 0, none⟩ = some (.int .u64 ((v1001 : Nat) : Int))) (h : brambleweir_rank_Fair_1 F v1000 v1001 v0 = some r) :
    Calls Tryd.prog 26 #[.int .i64 v0, .pointer (some ⟨g1000, 0, none⟩), .pointer (some ⟨g1001, 0, none⟩)] w fun e w' => e = .returned (.bool r) ∧ Below w.heap.size w w' := by
  have HR1000 := Lib.hid hr1000; clear hr1000
  have HX1000 := Lib.hid hx1000; clear hx1000
  have HX1001 := Lib.hid hx1001; clear hx1001
  have HD := Lib.hid (Below.refl w.heap.size w)
  have HOA := Lib.hid (HP.nil (W := w) (B := w.heap.size))
  unfold brambleweir_rank_Fair_1 at h
  have HM := Lib.hid h; clear h
  go_enter Tryd.func26, Tryd.ntmps26
  try go_wp2_with fail
  have fb1 := (HD.out.cell (p := ⟨g1000, 0, none⟩) (World.block_lt_of_cell? _ _ HX1000.out)).trans HX1000.out
  have fb2 := (HD.out.cell (p := ⟨g1001, 0, none⟩) (World.block_lt_of_cell? _ _ HX1001.out)).trans HX1001.out
  obtain ⟨y5, hy3, hm⟩ := obind HM.out
  replace HM := Lib.hid hm; clear hm
  have HC4 := Lib.hid (fun d_ os_ => Calls.regrown_of (v := .int .u64 ((y5 : Nat) : Int)) ((sWith_ok (Go.Sort.grow (redrawn w d_) os_)  hy3).mono fun _ _ h_ => ⟨h_.1, h_.2 ▸ Below.refl _ _⟩)); clear hy3
  obtain ⟨y8, hy6, hm⟩ := obind HM.out
  replace HM := Lib.hid hm; clear hm
  have HC7 := Lib.hid (fun d_ os_ => Calls.regrown_of (v := .bool y8) ((rank_may_ok (Go.Sort.grow (redrawn w d_) os_) cap1000 (rdR (below_regrown w d_ os_) (rdR HD.out HR1000.out)) hy6))); clear hy6
  try (have fb1_r := cell_regrown fb1)
  try (have fb2_r := cell_regrown fb2)
  refine wp_region_quiet_belowH (by kernel_rfl) (by kernel_rfl) ?_
  repeat (refine wpQH_step (fun K hK => ?_); go_simp; first | (refine hK _ ?_; clear hK K) | (apply Exists.intro; refine ⟨fun _ => ?_, hK _ ?_⟩; (first | (go_at_call 27; with_reducible exact (HC4.out _ _)) | (go_at_call 23; with_reducible exact (HC7.out _ _))); clear hK K))
  refine wpQH_nil ?_
  intro _ hw_
  obtain ⟨⟨dq, osq⟩, hw_⟩ := hw_
  subst hw_
  have hd := below_regrown w dq osq
  generalize Go.Sort.grow (redrawn w _) _ = W9 at *
  try clear fb1_r fb2_r
  try clear fb1 fb2
  replace HOA := Lib.hid (HOA.out.below hd)
  replace HD := Lib.hid (HD.out.trans (hd.mono HD.out.size))
  clear hd
  obtain rfl := Option.some.inj HM.out
  go_wp2_with fail
  go_ret
  exact ⟨rfl, HD.out⟩
def rank_Fair_L2 (F : Nat) (v1 : List (List Int)) (v5 : Nat) (v8 : Nat) : Nat → (Nat) → Option ((Unit) ⊕ (Bool × Int))
  | 0, _ => none
  | g+1, j => if j < v8 then ((((sLen (v5)).bind fun y8 => (sLen (j)).bind fun y9 => if y9 ≤ y8 then some true else (rank_may F (v1) (v5)).bind fun y10 => if y10 = true then some false else some true).bind fun b7 => if b7 = true then some true else (rank_may F (v1) (j)).bind fun y11 => if y11 = true then some false else some true).bind fun b6 => if b6 = true then (sInc j 1).bind fun jn => rank_Fair_L2 F v1 v5 v8 g jn else ((sNot j v5).bind fun y12 => (sList (y12)).bind fun y13 => (slices_ContainsFunc_int_int F (y13) ((fun z14 => brambleweir_rank_Fair_1 F (v1) (v5) z14))).bind fun y15 => if y15 = true then (sInc j 1).bind fun jn => rank_Fair_L2 F v1 v5 v8 g jn else some (.inr ((false, 0))))) else some (.inl ())
theorem rank_Fair_L2_0 (F : Nat) (v1 : List (List Int)) (v5 : Nat) (v8 : Nat) (j : Nat) : rank_Fair_L2 F v1 v5 v8 0 j = none := by rw [rank_Fair_L2]
theorem rank_Fair_L2_s (F g : Nat) (v1 : List (List Int)) (v5 : Nat) (v8 : Nat) (j : Nat) : rank_Fair_L2 F v1 v5 v8 (g+1) j = (if j < v8 then ((((sLen (v5)).bind fun y8 => (sLen (j)).bind fun y9 => if y9 ≤ y8 then some true else (rank_may F (v1) (v5)).bind fun y10 => if y10 = true then some false else some true).bind fun b7 => if b7 = true then some true else (rank_may F (v1) (j)).bind fun y11 => if y11 = true then some false else some true).bind fun b6 => if b6 = true then (sInc j 1).bind fun jn => rank_Fair_L2 F v1 v5 v8 g jn else ((sNot j v5).bind fun y12 => (sList (y12)).bind fun y13 => (slices_ContainsFunc_int_int F (y13) ((fun z14 => brambleweir_rank_Fair_1 F (v1) (v5) z14))).bind fun y15 => if y15 = true then (sInc j 1).bind fun jn => rank_Fair_L2 F v1 v5 v8 g jn else some (.inr ((false, 0))))) else some (.inl ())) := by rw [rank_Fair_L2]
def rank_Fair_L1 (F : Nat) (v0 : Int) (v1 : List (List Int)) (v7 : Nat) : Nat → (Nat) → Option ((Unit) ⊕ (Bool × Int))
  | 0, _ => none
  | g+1, j => if j < v7 then (sBelow (v0)).bind fun y4 => (sInc y4 1).bind fun y5 => (rank_Fair_L2 F (v1) (j) (y5) F (0)).bind fun o16 => match o16 with | .inr r => some (.inr (r)) | .inl o16 => (sInc j 1).bind fun jn => rank_Fair_L1 F v0 v1 v7 g jn else some (.inl ())
theorem rank_Fair_L1_0 (F : Nat) (v0 : Int) (v1 : List (List Int)) (v7 : Nat) (j : Nat) : rank_Fair_L1 F v0 v1 v7 0 j = none := by rw [rank_Fair_L1]
theorem rank_Fair_L1_s (F g : Nat) (v0 : Int) (v1 : List (List Int)) (v7 : Nat) (j : Nat) : rank_Fair_L1 F v0 v1 v7 (g+1) j = (if j < v7 then (sBelow (v0)).bind fun y4 => (sInc y4 1).bind fun y5 => (rank_Fair_L2 F (v1) (j) (y5) F (0)).bind fun o16 => match o16 with | .inr r => some (.inr (r)) | .inl o16 => (sInc j 1).bind fun jn => rank_Fair_L1 F v0 v1 v7 g jn else some (.inl ())) := by rw [rank_Fair_L1]
def rank_Fair (F : Nat) (v0 : Int) (v1 : List (List Int)) : Option (Bool × Int) := (rank_Check F (v0) (v1)).bind fun y1 => (if (y1 != 0) = true then some ((false, y1)) else (sBelow (v0)).bind fun y2 => (sInc y2 1).bind fun y3 => (rank_Fair_L1 F (v0) (v1) (y3) F (0)).bind fun o17 => match o17 with | .inr r => some (r) | .inl o17 => some ((true, 0)))
set_option maxRecDepth 100000 in
set_option maxHeartbeats 4000000 in
theorem rank_Fair_ok {F : Nat} {v0 : Int} {v1 : List (List Int)} {A1 : Option Addr} {r : Bool × Int} (w : World) (cap1 : Nat) (hr1 : ReadsR w w.heap.size A1 v1) (h : rank_Fair F v0 v1 = some r) :
    Calls Tryd.prog 7 #[.int .i64 v0, .slice A1 v1.length cap1] w fun e w' => e = .returned (.tuple #[(.bool r.1), (errV 44 r.2)]) ∧ Below w.heap.size w w' := by
  have HR1 := Lib.hid hr1; clear hr1
  have HD := Lib.hid (Below.refl w.heap.size w)
  have HOA := Lib.hid (HP.nil (W := w) (B := w.heap.size))
  unfold rank_Fair at h
  have HM := Lib.hid h; clear h
  go_enter Tryd.func7, Tryd.ntmps7
  go_upto_region 1 with (fail)
  have hd : Below w.heap.size w (w.alloc (.cells #[.slice A1 v1.length cap1] 22)) := (Below.refl _ _).alloc (Nat.le_refl _) _
  have ho := owX_ok w 22 (.slice A1 v1.length cap1)
  generalize hW : World.alloc w _ = W1 at *
  clear hW
  replace HOA := Lib.hid (HOA.out.call hd HD.out.size ho); clear ho
  replace HD := Lib.hid (HD.out.trans (hd.mono HD.out.size))
  clear hd
  have fb3 := HP.bx HOA.out (List.Mem.head _)
  obtain ⟨y6, hy4, hm⟩ := obind HM.out
  replace HM := Lib.hid hm; clear hm
  have HC5 := rank_Check_ok W1 cap1 (rdR HD.out HR1.out) hy4
  clear hy4
  replace HC5 := Lib.hid HC5
  go_wp2_with fail
  refine HC5.out.mono ?_; rintro e w' ⟨rfl, rfl⟩
  by_cases hz7 : y6 = 0
  · subst hz7
    try simp only [errV_zero]
    replace HM := Lib.hid (ifF (by decide) HM.out)
    obtain ⟨y11, hy9, hm⟩ := obind HM.out
    replace HM := Lib.hid hm; clear hm
    have HC10 := sBelow_ok W1  hy9
    clear hy9
    replace HC10 := Lib.hid HC10
    obtain ⟨y12, hy13, hm⟩ := obind HM.out
    replace HM := Lib.hid hm; clear hm
    obtain ⟨f14, hy13⟩ := sInc_some hy13; subst hy13
    go_wp2_with fail
    refine HC10.out.mono ?_; rintro e w' ⟨rfl, rfl⟩
    go_wp2_with fail
    try clear fb3 f14
    obtain ⟨o15, ho, hm⟩ := obind HM.out
    replace HM := Lib.hid hm; have HL1 := Lib.hid ho; clear hm ho
    go_loopg [18] F (fun gg uj wr => ∃ (j16 : Nat), uj = .int .u64 ((j16 : Nat) : Int) ∧ Hid (Below w.heap.size w wr) ∧ Hid (HP wr w.heap.size [.fl (owX 22 (some ⟨w.heap.size, 0, none⟩) (.slice A1 v1.length cap1))]) ∧ Hid (rank_Fair_L1 F (v0) (v1) ((y11 + 1)) gg j16 = some o15))
    case atStart => exact ⟨0, rfl, HD, HOA, HL1⟩
    case round =>
      obtain ⟨j16, rfl, HD, HOA, HL1⟩ := hrel
      rename World => W17
      cases gk with
      | zero => exact absurd ((rank_Fair_L1_0 ..).symm.trans HL1.out) (by intro h; cases h)
      | succ g1 =>
        replace HL1 := Lib.hid ((rank_Fair_L1_s ..).symm.trans HL1.out)
        by_cases hc18 : j16 < (y11 + 1)
        · replace HL1 := Lib.hid (ifT hc18 HL1.out)
          have HK19 := Lib.hid hc18
          first | (have hc18i : ((j16 : Nat) : Int) < (((y11 + 1) : Nat) : Int) := by omega) | (have hc18i : ¬ ((j16 : Nat) : Int) < (((y11 + 1) : Nat) : Int) := by omega)
          try have hc18id := decide_eq_false hc18i
          go_upto_region 7 with (fail)
          have hd : Below W17.heap.size W17 (W17.alloc (.cells #[.int .u64 (((j16) : Nat) : Int)] 48)) := (Below.refl _ _).alloc (Nat.le_refl _) _
          have ho := owX_ok W17 48 (.int .u64 (((j16) : Nat) : Int))
          generalize hW : World.alloc W17 _ = W20 at *
          clear hW
          try clear hc18
          replace HOA := Lib.hid (HOA.out.call hd HD.out.size ho); clear ho
          replace HD := Lib.hid (HD.out.trans (hd.mono HD.out.size))
          clear hd
          obtain ⟨y24, hy22, hm⟩ := obind HL1.out
          replace HL1 := Lib.hid hm; clear hm
          have HC23 := sBelow_ok W20  hy22
          clear hy22
          replace HC23 := Lib.hid HC23
          obtain ⟨y25, hy26, hm⟩ := obind HL1.out
          replace HL1 := Lib.hid hm; clear hm
          obtain ⟨f27, hy26⟩ := sInc_some hy26; subst hy26
          go_wp2_with fail
          refine HC23.out.mono ?_; rintro e w' ⟨rfl, rfl⟩
          go_wp2_with fail
          try clear f27
          obtain ⟨o28, ho, hm⟩ := obind HL1.out
          replace HL1 := Lib.hid hm; have HL2 := Lib.hid ho; clear hm ho
          go_loopg [24] F (fun gg uj wr => ∃ (j29 : Nat), uj = .int .u64 ((j29 : Nat) : Int) ∧ Hid (Below W20.heap.size W20 wr) ∧ Hid (rank_Fair_L2 F (v1) (j16) ((y24 + 1)) gg j29 = some o28))
          case atStart => exact ⟨0, rfl, (Lib.hid (Below.refl _ _)), HL2⟩
          case round =>
            obtain ⟨j29, rfl, HW2, HL2⟩ := hrel
            rename World => W30
            have hd := HW2.out
            replace HOA := Lib.hid (HOA.out.below hd)
            replace HD := Lib.hid (HD.out.trans (hd.mono HD.out.size))
            clear hd
            cases gk with
            | zero => exact absurd ((rank_Fair_L2_0 ..).symm.trans HL2.out) (by intro h; cases h)
            | succ g2 =>
              replace HL2 := Lib.hid ((rank_Fair_L2_s ..).symm.trans HL2.out)
              by_cases hc31 : j29 < (y24 + 1)
              · replace HL2 := Lib.hid (ifT hc31 HL2.out)
                have HK32 := Lib.hid hc31
                first | (have hc31i : ((j29 : Nat) : Int) < (((y24 + 1) : Nat) : Int) := by omega) | (have hc31i : ¬ ((j29 : Nat) : Int) < (((y24 + 1) : Nat) : Int) := by omega)
                try have hc31id := decide_eq_false hc31i
                obtain ⟨b33, hb, hm⟩ := obind HL2.out
                replace HL2 := Lib.hid hm; have HB34 := Lib.hid hb; clear hm hb
                obtain ⟨b35, hb, hm⟩ := obind HB34.out
                replace HB34 := Lib.hid hm; have HB36 := Lib.hid hb; clear hm hb
                have fb37 := HP.bx HOA.out (List.Mem.head _)
                obtain ⟨y40, hy38, hm⟩ := obind HB36.out
                replace HB36 := Lib.hid hm; clear hm
                have HC39 := sLen_ok W30  hy38
                clear hy38
                replace HC39 := Lib.hid HC39
                go_wp2_with fail
                refine HC39.out.mono ?_; rintro e W41 ⟨rfl, hd⟩
                try clear hc31 fb37
                replace HOA := Lib.hid (HOA.out.below hd)
                replace HD := Lib.hid (HD.out.trans (hd.mono HD.out.size))
                replace HW2 := Lib.hid (HW2.out.trans (hd.mono HW2.out.size))
                clear hd
                obtain ⟨y44, hy42, hm⟩ := obind HB36.out
                replace HB36 := Lib.hid hm; clear hm
                have HC43 := sLen_ok W41  hy42
                clear hy42
                replace HC43 := Lib.hid HC43
                go_wp2_with fail
                refine HC43.out.mono ?_; rintro e W45 ⟨rfl, hd⟩
                replace HOA := Lib.hid (HOA.out.below hd)
                replace HD := Lib.hid (HD.out.trans (hd.mono HD.out.size))
                replace HW2 := Lib.hid (HW2.out.trans (hd.mono HW2.out.size))
                clear hd
                by_cases hc46 : y44 ≤ y40
                · replace HB36 := Lib.hid (ifT hc46 HB36.out)
                  have HK47 := Lib.hid hc46
                  obtain rfl := Option.some.inj HB36.out
                  replace HB34 := Lib.hid (ifT (by first | rfl | trivial) HB34.out)
                  obtain rfl := Option.some.inj HB34.out
                  replace HL2 := Lib.hid (ifT (by first | rfl | trivial) HL2.out)
                  obtain ⟨y48, hy49, hm⟩ := obind HL2.out
                  replace HL2 := Lib.hid hm; clear hm
                  obtain ⟨f50, hy49⟩ := sInc_some hy49; subst hy49
                  go_wp2_with fail
                  try clear hc46 f50
                  go_roundg g2
                  case measure => omega
                  case rel => exact ⟨(j29 + 1), rfl, HW2, HL2⟩
                · replace HB36 := Lib.hid (ifF hc46 HB36.out)
                  have hc46d := decide_eq_false hc46
                  have HK47 := Lib.hid hc46
                  have fb51 := HP.bx HOA.out (List.Mem.tail _ (List.Mem.head _))
                  have fb52 := HP.bx HOA.out (List.Mem.head _)
                  obtain ⟨y55, hy53, hm⟩ := obind HB36.out
                  replace HB36 := Lib.hid hm; clear hm
                  have HC54 := rank_may_ok W45 cap1 (rdR HD.out HR1.out) hy53
                  clear hy53
                  replace HC54 := Lib.hid HC54
                  go_wp2_with fail
                  refine HC54.out.mono ?_; rintro e W56 ⟨rfl, hd⟩
                  try clear hc46 hc46d fb51 fb52
                  replace HOA := Lib.hid (HOA.out.below hd)
                  replace HD := Lib.hid (HD.out.trans (hd.mono HD.out.size))
                  replace HW2 := Lib.hid (HW2.out.trans (hd.mono HW2.out.size))
                  clear hd
                  cases y55
                  · replace HB36 := Lib.hid (ifF Bool.false_ne_true HB36.out)
                    obtain rfl := Option.some.inj HB36.out
                    replace HB34 := Lib.hid (ifT (by first | rfl | trivial) HB34.out)
                    obtain rfl := Option.some.inj HB34.out
                    replace HL2 := Lib.hid (ifT (by first | rfl | trivial) HL2.out)
                    obtain ⟨y57, hy58, hm⟩ := obind HL2.out
                    replace HL2 := Lib.hid hm; clear hm
                    obtain ⟨f59, hy58⟩ := sInc_some hy58; subst hy58
                    go_wp2_with fail
                    try clear f59
                    go_roundg g2
                    case measure => omega
                    case rel => exact ⟨(j29 + 1), rfl, HW2, HL2⟩
                  · replace HB36 := Lib.hid (ifT rfl HB36.out)
                    obtain rfl := Option.some.inj HB36.out
                    replace HB34 := Lib.hid (ifF (by first | exact Bool.false_ne_true | exact not_false) HB34.out)
                    have fb60 := HP.bx HOA.out (List.Mem.tail _ (List.Mem.head _))
                    obtain ⟨y63, hy61, hm⟩ := obind HB34.out
                    replace HB34 := Lib.hid hm; clear hm
                    have HC62 := rank_may_ok W56 cap1 (rdR HD.out HR1.out) hy61
                    clear hy61
                    replace HC62 := Lib.hid HC62
                    go_wp2_with fail
                    refine HC62.out.mono ?_; rintro e W64 ⟨rfl, hd⟩
                    try clear fb60
                    replace HOA := Lib.hid (HOA.out.below hd)
                    replace HD := Lib.hid (HD.out.trans (hd.mono HD.out.size))
                    replace HW2 := Lib.hid (HW2.out.trans (hd.mono HW2.out.size))
                    clear hd
                    cases y63
                    · replace HB34 := Lib.hid (ifF Bool.false_ne_true HB34.out)
                      obtain rfl := Option.some.inj HB34.out
                      replace HL2 := Lib.hid (ifT (by first | rfl | trivial) HL2.out)
                      obtain ⟨y65, hy66, hm⟩ := obind HL2.out
                      replace HL2 := Lib.hid hm; clear hm
                      obtain ⟨f67, hy66⟩ := sInc_some hy66; subst hy66
                      go_wp2_with fail
                      try clear f67
                      go_roundg g2
                      case measure => omega
                      case rel => exact ⟨(j29 + 1), rfl, HW2, HL2⟩
                    · replace HB34 := Lib.hid (ifT rfl HB34.out)
                      obtain rfl := Option.some.inj HB34.out
                      replace HL2 := Lib.hid (ifF (by first | exact Bool.false_ne_true | exact not_false) HL2.out)
                      have fb68 := HP.bx HOA.out (List.Mem.head _)
                      obtain ⟨y69, hy70, hm⟩ := obind HL2.out
                      replace HL2 := Lib.hid hm; clear hm
                      obtain ⟨f71, hy70⟩ := sNot_some hy70; subst hy70
                      obtain ⟨y74, hy72, hm⟩ := obind HL2.out
                      replace HL2 := Lib.hid hm; clear hm
                      have HC73 := sList_ok W64  hy72
                      clear hy72
                      replace HC73 := Lib.hid HC73
                      go_wp2_with fail
                      refine HC73.out.mono ?_; rintro e W75 ⟨V76, rfl, ho, hd⟩
                      try clear fb68 f71
                      replace HOA := Lib.hid (HOA.out.call hd HD.out.size ho); clear ho
                      replace HD := Lib.hid (HD.out.trans (hd.mono HD.out.size))
                      replace HW2 := Lib.hid (HW2.out.trans (hd.mono HW2.out.size))
                      clear hd
                      obtain ⟨y80, hy78, hm⟩ := obind HL2.out
                      replace HL2 := Lib.hid hm; clear hm
                      obtain ⟨A81, cap82, he, _⟩ := HP.open_I HOA.out (List.Mem.head _)
                      subst he
                      have HC79 := slices_ContainsFunc_int_int_ok W75 cap82 (HP.rd_I HOA.out (List.Mem.head _)) 26 #[.pointer (some ⟨w.heap.size, 0, none⟩), .pointer (some ⟨W17.heap.size, 0, none⟩)] (enters_of Tryd.func26 (by kernel_rfl) rfl) (fun W_ x_ b_ hB_ hq_ => (brambleweir_rank_Fair_1_ok W_ cap1 (rdR (HD.out.trans (hB_.mono HD.out.size)) HR1.out) (HP.bx (HOA.out.below hB_) (List.Mem.tail _ (List.Mem.tail _ (List.Mem.head _)))) (HP.bx (HOA.out.below hB_) (List.Mem.tail _ (List.Mem.head _))) hq_).mono fun e_ w_ h_ => h_) hy78
                      clear hy78
                      replace HC79 := Lib.hid HC79
                      go_wp2_with fail
                      refine HC79.out.mono ?_; rintro e W83 ⟨rfl, hd⟩
                      replace HOA := Lib.hid (HOA.out.below hd)
                      replace HD := Lib.hid (HD.out.trans (hd.mono HD.out.size))
                      replace HW2 := Lib.hid (HW2.out.trans (hd.mono HW2.out.size))
                      clear hd
                      cases y80
                      · replace HL2 := Lib.hid (ifF Bool.false_ne_true HL2.out)
                        obtain rfl := Option.some.inj HL2.out
                        have hm := HL1.out; try dsimp only at hm
                        replace HL1 := Lib.hid hm; clear hm
                        obtain rfl := Option.some.inj HL1.out
                        have hm := HM.out; try dsimp only at hm
                        replace HM := Lib.hid hm; clear hm
                        obtain rfl := Option.some.inj HM.out
                        go_wp2_with fail
                        go_ret2
                        exact ⟨rfl, HD.out⟩
                      · replace HL2 := Lib.hid (ifT rfl HL2.out)
                        obtain ⟨y84, hy85, hm⟩ := obind HL2.out
                        replace HL2 := Lib.hid hm; clear hm
                        obtain ⟨f86, hy85⟩ := sInc_some hy85; subst hy85
                        go_wp2_with fail
                        try clear f86
                        go_roundg g2
                        case measure => omega
                        case rel => exact ⟨(j29 + 1), rfl, HW2, HL2⟩
              · replace HL2 := Lib.hid (ifF hc31 HL2.out)
                have hc31d := decide_eq_false hc31
                have HK32 := Lib.hid hc31
                first | (have hc31i : ((j29 : Nat) : Int) < (((y24 + 1) : Nat) : Int) := by omega) | (have hc31i : ¬ ((j29 : Nat) : Int) < (((y24 + 1) : Nat) : Int) := by omega)
                try have hc31id := decide_eq_false hc31i
                obtain rfl := Option.some.inj HL2.out
                have hm := HL1.out; try dsimp only at hm
                replace HL1 := Lib.hid hm; clear hm
                obtain ⟨y87, hy88, hm⟩ := obind HL1.out
                replace HL1 := Lib.hid hm; clear hm
                obtain ⟨f89, hy88⟩ := sInc_some hy88; subst hy88
                go_wp2_with fail
                try clear hc31 hc31d f89
                replace HOA := Lib.hid (HOA.out.sub (.cons _ (.cons₂ _ .slnil)))
                go_roundg g1
                case measure => omega
                case rel => exact ⟨(j16 + 1), rfl, HD, HOA, HL1⟩
        · replace HL1 := Lib.hid (ifF hc18 HL1.out)
          have hc18d := decide_eq_false hc18
          have HK19 := Lib.hid hc18
          first | (have hc18i : ((j16 : Nat) : Int) < (((y11 + 1) : Nat) : Int) := by omega) | (have hc18i : ¬ ((j16 : Nat) : Int) < (((y11 + 1) : Nat) : Int) := by omega)
          try have hc18id := decide_eq_false hc18i
          obtain rfl := Option.some.inj HL1.out
          have hm := HM.out; try dsimp only at hm
          replace HM := Lib.hid hm; clear hm
          obtain rfl := Option.some.inj HM.out
          go_wp2_with fail
          try clear hc18 hc18d
          go_ret2
          exact ⟨rfl, HD.out⟩
  · try rw [errV_pos _ hz7]
    have HZ8 := Lib.hid hz7; clear hz7
    replace HM := Lib.hid (ifT (bne_iff_ne.2 HZ8.out) HM.out)
    obtain rfl := Option.some.inj HM.out
    go_wp2_with fail
    try clear fb3
    go_ret2
    exact ⟨(by first | (rw [errV_pos _ HZ8.out]; rfl) | rw [errV_pos _ HZ8.out]), HD.out⟩
end Go.Proofs.YtfaemblfffbmfaaDoor
