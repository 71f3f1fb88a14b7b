import Derived.Test.YtjpfmbffiagjgaaGreatDoorBkN
import Derived.Test.YtjpfmbffiagjgaaGreatDoorBox
import Derived.Test.YtjpfmbffiagjgaaGreatDoorQB
import Derived.Test.YtjpfmbffiagjgaaGreatDoorAst
import Derived.Test.YtjpfmbffiagjgaaGreatDoorMSt
import Derived.Test.YtjpfmbffiagjgaaGreatDoorL2
import Derived.Test.YtjpfmbffiagjgaaGreatDoorCmp
import Derived.Test.YtjpfmbffiagjgaaGreatDoorClo
import Derived.Test.YtjpfmbffiagjgaaGreatDoorGR
set_option linter.all false
set_option maxRecDepth 100000
namespace Go.Proofs.YtjpfmbffiagjgaaGreatDoor
open Go.RowKit
attribute [local go_sem] Oper.semAt_some
def L4_put_L1 (F : Nat) (v0 : List (List Int)) : Nat → (BkT) → (Int) → Option (BkT × Int)
  | 0, _, _ => none
  | g+1, v2, v3 => (if v3 < ((v0).length : Int) then if v3 < 70 then some true else some false else some false).bind fun b2 => if b2 = true then (ix v0 v3).bind fun y3 => (if (((y3).length : Int) != 3) = true then L4_put_L1 F v0 g (v2) ((wrap64 (v3 + 1))) else ((ix y3 0).bind fun y4 => if (y4 == 0) = true then (ix y3 1).bind fun y5 => (ix y3 2).bind fun y6 => (mJoin (v2) (y5) (y6)).bind fun y7 => L4_put_L1 F v0 g (y7.2) ((wrap64 (v3 + 1))) else (ix y3 1).bind fun y8 => (ix y3 2).bind fun y9 => (mCut (v2) (y8) (y9)).bind fun y10 => L4_put_L1 F v0 g (y10.2) ((wrap64 (v3 + 1))))) else some (v2, v3)
theorem L4_put_L1_0 (F : Nat) (v0 : List (List Int)) (v2 : BkT) (v3 : Int) : L4_put_L1 F v0 0 v2 v3 = none := by rw [L4_put_L1]
theorem L4_put_L1_s (F g : Nat) (v0 : List (List Int)) (v2 : BkT) (v3 : Int) : L4_put_L1 F v0 (g+1) v2 v3 = ((if v3 < ((v0).length : Int) then if v3 < 70 then some true else some false else some false).bind fun b2 => if b2 = true then (ix v0 v3).bind fun y3 => (if (((y3).length : Int) != 3) = true then L4_put_L1 F v0 g (v2) ((wrap64 (v3 + 1))) else ((ix y3 0).bind fun y4 => if (y4 == 0) = true then (ix y3 1).bind fun y5 => (ix y3 2).bind fun y6 => (mJoin (v2) (y5) (y6)).bind fun y7 => L4_put_L1 F v0 g (y7.2) ((wrap64 (v3 + 1))) else (ix y3 1).bind fun y8 => (ix y3 2).bind fun y9 => (mCut (v2) (y8) (y9)).bind fun y10 => L4_put_L1 F v0 g (y10.2) ((wrap64 (v3 + 1))))) else some (v2, v3)) := by rw [L4_put_L1]
def L4_put (F : Nat) (v0 : List (List Int)) : Option (BkT) := (bkNewM ).bind fun y1 => (L4_put_L1 F (v0) F (y1) (0)).bind fun o11 => some (o11.1)
set_option maxRecDepth 100000 in
set_option maxHeartbeats 4000000 in
theorem L4_put_ok {F : Nat} {v0 : List (List Int)} {A0 : Option Addr} {r : BkT} (w : World) (htb : TabC w) (cap0 : Nat) (hr0 : ReadsR w w.heap.size A0 v0) (h : L4_put F v0 = some r) :
    Calls Tryz.prog 13 #[.slice A0 v0.length cap0] w fun e w' => ∃ g, e = .returned (.pointer (some ⟨g, 0, none⟩)) ∧ HP w' w.heap.size [bkI g (r)] ∧ Below w.heap.size w w' := by
  have HTB := Lib.hid htb; clear htb
  have HR0 := Lib.hid hr0; clear hr0
  have HD := Lib.hid (Below.refl w.heap.size w)
  have HOA := Lib.hid (HP.nil (W := w) (B := w.heap.size))
  unfold L4_put at h
  have HM := Lib.hid h; clear h
  go_enter Tryz.func13, Tryz.ntmps13
  obtain ⟨y6, hy3, hm⟩ := obind HM.out
  replace HM := Lib.hid hm; clear hm
  have HC4 := Lib.hid (bkNewM_ok w  hy3); clear hy3
  go_wp2_with fail
  refine HC4.out.mono ?_; rintro e W5 ⟨g7, rfl, ho, hd⟩
  replace HOA := Lib.hid (show HP W5 w.heap.size [(bkI g7 (y6))] from HOA.out.callIt hd HD.out.size ho); clear ho
  replace HD := Lib.hid (HD.out.trans (hd.mono HD.out.size))
  clear hd
  go_wp2_with fail
  obtain ⟨o9, ho, hm⟩ := obind HM.out
  replace HM := Lib.hid hm; have HL1 := Lib.hid ho; clear hm ho
  go_loopg [4] F (fun gg ux12 wr => ∃ (x10 : BkT) (x11 : Int), ux12 = .int .i64 x11 ∧ Hid (Below w.heap.size w wr) ∧ Hid (HP wr w.heap.size [(bkI g7 (x10))]) ∧ Hid (L4_put_L1 F (v0) gg x10 x11 = some o9))
  case atStart => exact ⟨y6, 0, rfl, HD, HOA, HL1⟩
  case round =>
    obtain ⟨x10, x11, rfl, HD, HOA, HL1⟩ := hrel
    rename World => W13
    cases gk with
    | zero => exact absurd ((L4_put_L1_0 ..).symm.trans HL1.out) (by intro h; cases h)
    | succ g1 =>
      replace HL1 := Lib.hid ((L4_put_L1_s ..).symm.trans HL1.out)
      obtain ⟨b14, hb, hm⟩ := obind HL1.out
      replace HL1 := Lib.hid hm; have HB15 := Lib.hid hb; clear hm hb
      by_cases hc16 : x11 < ((v0).length : Int)
      · replace HB15 := Lib.hid (ifT hc16 HB15.out)
        have HK17 := Lib.hid hc16
        by_cases hc18 : x11 < 70
        · replace HB15 := Lib.hid (ifT hc18 HB15.out)
          have HK19 := Lib.hid hc18
          obtain rfl := Option.some.inj HB15.out
          replace HL1 := Lib.hid (ifT (by first | rfl | trivial) HL1.out)
          obtain ⟨y20, hy21, hm⟩ := obind HL1.out
          replace HL1 := Lib.hid hm; clear hm
          obtain ⟨b22, o23, A29, cap30, ea24, _, f25, f26, f27, hrr, hrc⟩ := ReadsR.ixc (rdR HD.out HR0.out) hy21
          cases ea24
          have HR31c := Lib.hid hrc; clear hrc
          try simp only [Nat.zero_add, Nat.add_zero, Int.toNat_natCast, Int.toNat_zero, Int.toNat_one] at f27
          have HR31 := Lib.hid hrr; clear hrr
          have HY32 := Lib.hid hy21; clear hy21
          rcases Bool.eq_false_or_eq_true (((y20).length : Int) != 3) with hc33 | hc33
          · replace HL1 := Lib.hid (ifT hc33 HL1.out)
            have HK34 := Lib.hid hc33
            go_upto_region 4 with (fail)
            try clear hc16 hc18 f25 f26 f27 hc33
            go_wp2_with fail
            go_roundg g1
            case measure => omega
            case rel => exact ⟨x10, (wrap64 (x11 + 1)), rfl, HD, HOA, HL1⟩
          · replace HL1 := Lib.hid (ifF (bF hc33) HL1.out)
            have HK34 := Lib.hid hc33
            obtain ⟨y35, hy36, hm⟩ := obind HL1.out
            replace HL1 := Lib.hid hm; clear hm
            obtain ⟨b37, o38, ea39, _, f40, f41, f42⟩ := ReadsI.ix HR31.out hy36
            cases ea39
            try simp only [Nat.zero_add, Nat.add_zero, Int.toNat_natCast, Int.toNat_zero, Int.toNat_one] at f42
            have f41n := f41; try norm_cast at f41n
            have HY44 := Lib.hid hy36; clear hy36
            rcases Bool.eq_false_or_eq_true (y35 == 0) with hc45 | hc45
            · replace HL1 := Lib.hid (ifT hc45 HL1.out)
              have HK46 := Lib.hid hc45
              try go_wp2_with fail
              try clear hc16 hc18 f25 f26 f27 hc33 f40 f41 f42 f41n hc45
              obtain ⟨y47, hy48, hm⟩ := obind HL1.out
              replace HL1 := Lib.hid hm; clear hm
              obtain ⟨b49, o50, ea51, _, f52, f53, f54⟩ := ReadsI.ix HR31.out hy48
              cases ea51
              try simp only [Nat.zero_add, Nat.add_zero, Int.toNat_natCast, Int.toNat_zero, Int.toNat_one] at f54
              have f53n := f53; try norm_cast at f53n
              have HY56 := Lib.hid hy48; clear hy48
              obtain ⟨y57, hy58, hm⟩ := obind HL1.out
              replace HL1 := Lib.hid hm; clear hm
              obtain ⟨b59, o60, ea61, _, f62, f63, f64⟩ := ReadsI.ix HR31.out hy58
              cases ea61
              try simp only [Nat.zero_add, Nat.add_zero, Int.toNat_natCast, Int.toNat_zero, Int.toNat_one, Int.reduceToNat] at f64
              have f63n := f63; try norm_cast at f63n
              have HY66 := Lib.hid hy58; clear hy58
              try (have f52_r := cell_regrown f52)
              try (have f53_r := cell_regrown f53)
              try (have f54_r := cell_regrown f54)
              try (have f53n_r := cell_regrown f53n)
              try (have f62_r := cell_regrown f62)
              try (have f63_r := cell_regrown f63)
              try (have f64_r := cell_regrown f64)
              try (have f63n_r := cell_regrown f63n)
              refine wp_region_quiet_tail 7 (by kernel_rfl) (by kernel_rfl) ?_
              dsimp only [List.take, List.drop]
              repeat (refine wpQH_step (fun K hK => ?_); go_simp; first | (refine hK _ ?_; clear hK K) | (apply Exists.intro; refine ⟨fun _ => ?_, hK _ ?_⟩; (fail); clear hK K))
              refine wpQH_nil ?_
              intro _ hw_
              obtain ⟨⟨dq, osq⟩, hw_⟩ := hw_
              subst hw_
              have hd := below_regrown W13 dq osq
              generalize Go.Sort.grow (redrawn W13 _) _ = W71 at *
              try clear f52_r f53_r f54_r f53n_r f62_r f63_r f64_r f63n_r
              try clear f52 f53 f54 f53n f62 f63 f64 f63n
              replace HOA := Lib.hid (HOA.out.below hd)
              replace HR31 := Lib.hid (rdI hd HR31.out)
              replace HD := Lib.hid (HD.out.trans (hd.mono HD.out.size))
              clear hd
              obtain ⟨⟨y75, z76⟩, hy72, hm⟩ := obind HL1.out
              dsimp only at hm
              replace HL1 := Lib.hid hm; clear hm
              have HC73 := mJoin_ok2 (its1 := []) W71 (HTB.out.at_.go HD.out) HOA.out HD.out.size hy72; clear hy72
              replace HC73 := Lib.hid HC73
              go_wp2_with fail
              refine HC73.out.mono ?_; rintro e W74 ⟨rfl, hp, hb⟩
              replace HOA := Lib.hid (show HP W74 w.heap.size [(bkI g7 (z76))] from hp); clear hp
              replace HD := Lib.hid (HD.out.trans hb); clear hb
              go_wp2_with fail
              go_roundg g1
              case measure => omega
              case rel => exact ⟨z76, (wrap64 (x11 + 1)), rfl, HD, HOA, HL1⟩
            · replace HL1 := Lib.hid (ifF (bF hc45) HL1.out)
              have HK46 := Lib.hid hc45
              try go_wp2_with fail
              try clear hc16 hc18 f25 f26 f27 hc33 f40 f41 f42 f41n hc45
              obtain ⟨y77, hy78, hm⟩ := obind HL1.out
              replace HL1 := Lib.hid hm; clear hm
              obtain ⟨b79, o80, ea81, _, f82, f83, f84⟩ := ReadsI.ix HR31.out hy78
              cases ea81
              try simp only [Nat.zero_add, Nat.add_zero, Int.toNat_natCast, Int.toNat_zero, Int.toNat_one] at f84
              have f83n := f83; try norm_cast at f83n
              have HY86 := Lib.hid hy78; clear hy78
              obtain ⟨y87, hy88, hm⟩ := obind HL1.out
              replace HL1 := Lib.hid hm; clear hm
              obtain ⟨b89, o90, ea91, _, f92, f93, f94⟩ := ReadsI.ix HR31.out hy88
              cases ea91
              try simp only [Nat.zero_add, Nat.add_zero, Int.toNat_natCast, Int.toNat_zero, Int.toNat_one, Int.reduceToNat] at f94
              have f93n := f93; try norm_cast at f93n
              have HY96 := Lib.hid hy88; clear hy88
              try (have f82_r := cell_regrown f82)
              try (have f83_r := cell_regrown f83)
              try (have f84_r := cell_regrown f84)
              try (have f83n_r := cell_regrown f83n)
              try (have f92_r := cell_regrown f92)
              try (have f93_r := cell_regrown f93)
              try (have f94_r := cell_regrown f94)
              try (have f93n_r := cell_regrown f93n)
              refine wp_region_quiet_tail 7 (by kernel_rfl) (by kernel_rfl) ?_
              dsimp only [List.take, List.drop]
              repeat (refine wpQH_step (fun K hK => ?_); go_simp; first | (refine hK _ ?_; clear hK K) | (apply Exists.intro; refine ⟨fun _ => ?_, hK _ ?_⟩; (fail); clear hK K))
              refine wpQH_nil ?_
              intro _ hw_
              obtain ⟨⟨dq, osq⟩, hw_⟩ := hw_
              subst hw_
              have hd := below_regrown W13 dq osq
              generalize Go.Sort.grow (redrawn W13 _) _ = W101 at *
              try clear f82_r f83_r f84_r f83n_r f92_r f93_r f94_r f93n_r
              try clear f82 f83 f84 f83n f92 f93 f94 f93n
              replace HOA := Lib.hid (HOA.out.below hd)
              replace HR31 := Lib.hid (rdI hd HR31.out)
              replace HD := Lib.hid (HD.out.trans (hd.mono HD.out.size))
              clear hd
              obtain ⟨⟨y105, z106⟩, hy102, hm⟩ := obind HL1.out
              dsimp only at hm
              replace HL1 := Lib.hid hm; clear hm
              have HC103 := mCut_ok2 (its1 := []) W101 (HTB.out.at_.go HD.out) HOA.out HD.out.size hy102; clear hy102
              replace HC103 := Lib.hid HC103
              go_wp2_with fail
              refine HC103.out.mono ?_; rintro e W104 ⟨rfl, hp, hb⟩
              replace HOA := Lib.hid (show HP W104 w.heap.size [(bkI g7 (z106))] from hp); clear hp
              replace HD := Lib.hid (HD.out.trans hb); clear hb
              go_wp2_with fail
              go_roundg g1
              case measure => omega
              case rel => exact ⟨z106, (wrap64 (x11 + 1)), rfl, HD, HOA, HL1⟩
        · replace HB15 := Lib.hid (ifF hc18 HB15.out)
          have hc18d := decide_eq_false hc18
          have HK19 := Lib.hid hc18
          obtain rfl := Option.some.inj HB15.out
          replace HL1 := Lib.hid (ifF (by first | exact Bool.false_ne_true | exact not_false) HL1.out)
          obtain rfl := Option.some.inj HL1.out
          have hm := HM.out; try dsimp only at hm
          replace HM := Lib.hid hm; clear hm
          obtain rfl := Option.some.inj HM.out
          go_wp2_with fail
          try clear hc16 hc18 hc18d
          go_ret
          exact ⟨_, rfl, HOA.out, HD.out⟩
      · replace HB15 := Lib.hid (ifF hc16 HB15.out)
        have hc16d := decide_eq_false hc16
        have HK17 := Lib.hid hc16
        obtain rfl := Option.some.inj HB15.out
        replace HL1 := Lib.hid (ifF (by first | exact Bool.false_ne_true | exact not_false) HL1.out)
        obtain rfl := Option.some.inj HL1.out
        have hm := HM.out; try dsimp only at hm
        replace HM := Lib.hid hm; clear hm
        obtain rfl := Option.some.inj HM.out
        go_wp2_with fail
        try clear hc16 hc16d
        go_ret
        exact ⟨_, rfl, HOA.out, HD.out⟩
end Go.Proofs.YtjpfmbffiagjgaaGreatDoor
