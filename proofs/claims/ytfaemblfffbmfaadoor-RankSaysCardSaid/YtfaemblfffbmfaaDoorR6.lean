import Derived.Test.YtfaemblfffbmfaaDoorR5
import Derived.Test.YtfaemblfffbmfaaDoorStb
import Derived.Test.YtfaemblfffbmfaaDoorQB
set_option linter.all false
set_option maxRecDepth 100000
namespace Go.Proofs.YtfaemblfffbmfaaDoor
open Go.RowKit
def rank_Greedy_L1 (F : Nat) (v1 : List (List Int)) (v2 : List Int) (v7 : List Int) : Nat → (Int) → (Nat) → (Int) → Option (Nat × Int)
  | 0, _, _, _ => none
  | g+1, j, v8, v9 => if j < ((v7).length : Int) then (ix v7 j).bind fun y => ((sWith (v8) (y)).bind fun y7 => (rank_may F (v1) (y7)).bind fun y8 => if y8 = true then (sWith (v8) (y)).bind fun y9 => (ix v2 y).bind fun y10 => rank_Greedy_L1 F v1 v2 v7 g (wrap64 (j + 1)) (y9) ((wrap64 (v9 + y10))) else rank_Greedy_L1 F v1 v2 v7 g (wrap64 (j + 1)) (v8) (v9)) else some (v8, v9)
theorem rank_Greedy_L1_0 (F : Nat) (v1 : List (List Int)) (v2 : List Int) (v7 : List Int) (v8 : Nat) (v9 : Int) (j : Int) : rank_Greedy_L1 F v1 v2 v7 0 j v8 v9 = none := by rw [rank_Greedy_L1]
theorem rank_Greedy_L1_s (F g : Nat) (v1 : List (List Int)) (v2 : List Int) (v7 : List Int) (v8 : Nat) (v9 : Int) (j : Int) : rank_Greedy_L1 F v1 v2 v7 (g+1) j v8 v9 = (if j < ((v7).length : Int) then (ix v7 j).bind fun y => ((sWith (v8) (y)).bind fun y7 => (rank_may F (v1) (y7)).bind fun y8 => if y8 = true then (sWith (v8) (y)).bind fun y9 => (ix v2 y).bind fun y10 => rank_Greedy_L1 F v1 v2 v7 g (wrap64 (j + 1)) (y9) ((wrap64 (v9 + y10))) else rank_Greedy_L1 F v1 v2 v7 g (wrap64 (j + 1)) (v8) (v9)) else some (v8, v9)) := by rw [rank_Greedy_L1]
def rank_Greedy (F : Nat) (v0 : Int) (v1 : List (List Int)) (v2 : List Int) : Option (List Int × Int × Int) := (rank_worth F (v0) (v1) (v2)).bind fun y1 => (if (y1 != 0) = true then some (([], 0, y1)) else (sBelow (v0)).bind fun y2 => (sList (y2)).bind fun y3 => (slStb (fun z5 z6 => brambleweir_rank_Greedy_1 F (v2) z5 z6) y3).bind fun y4 => (rank_Greedy_L1 F (v1) (v2) (y4) F (0) (0) (0)).bind fun o11 => (sList (o11.1)).bind fun y12 => some ((y12, o11.2, 0)))
set_option maxRecDepth 100000 in
set_option maxHeartbeats 4000000 in
theorem rank_Greedy_ok {F : Nat} {v0 : Int} {v1 : List (List Int)} {A1 : Option Addr} {v2 : List Int} {A2 : Option Addr} {r : List Int × Int × Int} (w : World) (cap1 : Nat) (hr1 : ReadsR w w.heap.size A1 v1) (cap2 : Nat) (hr2 : ReadsI w w.heap.size A2 v2) (h : rank_Greedy F v0 v1 v2 = some r) :
    Calls Tryd.prog 12 #[.int .i64 v0, .slice A1 v1.length cap1, .slice A2 v2.length cap2] w (PostG (fun v => (.tuple #[v, (.int .i64 r.2.1), (errV 44 r.2.2)])) (fun v => owI v r.1) w.heap.size w) := by
  have HR1 := Lib.hid hr1; clear hr1
  have HR2 := Lib.hid hr2; clear hr2
  have HD := Lib.hid (Below.refl w.heap.size w)
  have HOA := Lib.hid (HP.nil (W := w) (B := w.heap.size))
  unfold rank_Greedy at h
  have HM := Lib.hid h; clear h
  go_enter Tryd.func12, Tryd.ntmps12
  go_upto_region 1 with (fail)
  have hd : Below w.heap.size w (w.alloc (.cells #[.slice A2 v2.length cap2] 23)) := (Below.refl _ _).alloc (Nat.le_refl _) _
  have ho := owX_ok w 23 (.slice A2 v2.length cap2)
  generalize hW : World.alloc w _ = W1 at *
  clear hW
  replace HOA := Lib.hid (HOA.out.call hd HD.out.size ho); clear ho
  replace HD := Lib.hid (HD.out.trans (hd.mono HD.out.size))
  clear hd
  have fb3 := HP.bx HOA.out (List.Mem.head _)
  obtain ⟨y6, hy4, hm⟩ := obind HM.out
  replace HM := Lib.hid hm; clear hm
  have HC5 := rank_worth_ok W1 cap1 (rdR HD.out HR1.out) cap2 (rdI HD.out HR2.out) hy4
  clear hy4
  replace HC5 := Lib.hid HC5
  go_wp2_with fail
  refine HC5.out.mono ?_; rintro e w' ⟨rfl, rfl⟩
  by_cases hz7 : y6 = 0
  · subst hz7
    try simp only [errV_zero]
    replace HM := Lib.hid (ifF (by decide) HM.out)
    obtain ⟨y11, hy9, hm⟩ := obind HM.out
    replace HM := Lib.hid hm; clear hm
    have HC10 := sBelow_ok W1  hy9
    clear hy9
    replace HC10 := Lib.hid HC10
    obtain ⟨y14, hy12, hm⟩ := obind HM.out
    replace HM := Lib.hid hm; clear hm
    have HC13 := sList_ok W1  hy12
    clear hy12
    replace HC13 := Lib.hid HC13
    go_wp2_with fail
    refine HC10.out.mono ?_; rintro e w' ⟨rfl, rfl⟩
    go_wp2_with fail
    refine HC13.out.mono ?_; rintro e W15 ⟨V16, rfl, ho, hd⟩
    try clear fb3
    replace HOA := Lib.hid (HOA.out.call hd HD.out.size ho); clear ho
    replace HD := Lib.hid (HD.out.trans (hd.mono HD.out.size))
    clear hd
    go_wp2_with fail
    obtain ⟨A18, cap19, he, _⟩ := HP.open_I HOA.out (List.Mem.head _)
    subst he
    obtain ⟨y20, hy21, hm⟩ := obind HM.out
    replace HM := Lib.hid hm; clear hm
    have hfr := HP.front (its1 := []) HOA.out
    have HC22 := Lib.hid (hp_stab 37 #[.pointer (some ⟨w.heap.size, 0, none⟩)] (enters_of Tryd.func37 (by kernel_rfl) rfl) HD.out hfr (fun W_ a_ b_ r_ hd_ hoa_ hq_ => (brambleweir_rank_Greedy_1_ok W_ cap2 (rdI hd_ HR2.out) (HP.bx hoa_ (List.Mem.head _)) hq_).mono fun e_ w_ h_ => h_) hy21); clear hy21 hfr
    go_wp2_with fail
    refine HC22.out.mono ?_; rintro e W23 ⟨rfl, hp, hb⟩
    replace HOA := Lib.hid (show HP W23 w.heap.size [.fl (owI (.slice A18 (y14).length cap19) (y20)), .fl (owX 23 (some ⟨w.heap.size, 0, none⟩) (.slice A2 v2.length cap2))] from hp); clear hp
    replace HD := Lib.hid hb; clear hb
    go_wp2_with fail
    obtain ⟨o24, ho, hm⟩ := obind HM.out
    replace HM := Lib.hid hm; have HL1 := Lib.hid ho; clear hm ho
    go_loopg [30, 11, 12] F (fun gg uj ux27 ux28 wr => ∃ (j29 : Int) (x25 : Nat) (x26 : Int), uj = .int .i64 j29 ∧ ux27 = .int .u64 ((x25 : Nat) : Int) ∧ ux28 = .int .i64 x26 ∧ Hid (Below W23.heap.size W23 wr) ∧ Hid (rank_Greedy_L1 F (v1) (v2) (y20) gg j29 x25 x26 = some o24))
    case atStart => exact ⟨0, 0, 0, rfl, rfl, rfl, (Lib.hid (Below.refl _ _)), HL1⟩
    case round =>
      obtain ⟨j29, x25, x26, rfl, rfl, rfl, HW1, HL1⟩ := hrel
      rename World => W30
      have hd := HW1.out
      replace HOA := Lib.hid (HOA.out.below hd)
      replace HD := Lib.hid (HD.out.trans (hd.mono HD.out.size))
      clear hd
      cases gk with
      | zero => exact absurd ((rank_Greedy_L1_0 ..).symm.trans HL1.out) (by intro h; cases h)
      | succ g1 =>
        replace HL1 := Lib.hid ((rank_Greedy_L1_s ..).symm.trans HL1.out)
        by_cases hc31 : j29 < ((y20).length : Int)
        · replace HL1 := Lib.hid (ifT hc31 HL1.out)
          have HK32 := Lib.hid hc31
          try rw [← HP.len_I HOA.out (List.Mem.head _)] at hc31
          obtain ⟨y33, hy34, hm⟩ := obind HL1.out
          replace HL1 := Lib.hid hm; clear hm
          obtain ⟨b35, o36, ea37, _, f38, f39, f40⟩ := ReadsI.ix (HP.rd_I HOA.out (List.Mem.head _)) hy34
          cases ea37
          try simp only [Nat.zero_add, Nat.add_zero, Int.toNat_natCast, Int.toNat_zero, Int.toNat_one] at f40
          try rw [← HP.len_I HOA.out (List.Mem.head _)] at f39
          have HY42 := Lib.hid hy34; clear hy34
          obtain ⟨y45, hy43, hm⟩ := obind HL1.out
          replace HL1 := Lib.hid hm; clear hm
          have HC44 := sWith_ok W30  hy43
          clear hy43
          replace HC44 := Lib.hid HC44
          obtain ⟨y48, hy46, hm⟩ := obind HL1.out
          replace HL1 := Lib.hid hm; clear hm
          have HC47 := rank_may_ok W30 cap1 (rdR HD.out HR1.out) hy46
          clear hy46
          replace HC47 := Lib.hid HC47
          go_wp2_with fail
          refine HC44.out.mono ?_; rintro e w' ⟨rfl, rfl⟩
          go_wp2_with fail
          refine HC47.out.mono ?_; rintro e W49 ⟨rfl, hd⟩
          try clear hc31 f38 f39 f40
          replace HOA := Lib.hid (HOA.out.below hd)
          replace HD := Lib.hid (HD.out.trans (hd.mono HD.out.size))
          replace HW1 := Lib.hid (HW1.out.trans (hd.mono HW1.out.size))
          clear hd
          cases y48
          · replace HL1 := Lib.hid (ifF Bool.false_ne_true HL1.out)
            go_wp2_with fail
            go_roundg g1
            case measure => omega
            case rel => exact ⟨(wrap64 (j29 + 1)), x25, x26, rfl, rfl, rfl, HW1, HL1⟩
          · replace HL1 := Lib.hid (ifT rfl HL1.out)
            obtain ⟨y52, hy50, hm⟩ := obind HL1.out
            replace HL1 := Lib.hid hm; clear hm
            have HC51 := sWith_ok W49  hy50
            clear hy50
            replace HC51 := Lib.hid HC51
            have fb53 := HP.bx HOA.out (List.Mem.tail _ (List.Mem.head _))
            obtain ⟨y54, hy55, hm⟩ := obind HL1.out
            replace HL1 := Lib.hid hm; clear hm
            obtain ⟨b56, o57, ea58, _, f59, f60, f61⟩ := ReadsI.ix (rdI HD.out HR2.out) hy55
            cases ea58
            try simp only [Nat.zero_add, Nat.add_zero, Int.toNat_natCast, Int.toNat_zero, Int.toNat_one] at f61
            have HY63 := Lib.hid hy55; clear hy55
            go_wp2_with fail
            refine HC51.out.mono ?_; rintro e w' ⟨rfl, rfl⟩
            go_wp2_with fail
            try clear fb53 f59 f60 f61
            go_roundg g1
            case measure => omega
            case rel => exact ⟨(wrap64 (j29 + 1)), y52, (wrap64 (x26 + y54)), rfl, rfl, rfl, HW1, HL1⟩
        · replace HL1 := Lib.hid (ifF hc31 HL1.out)
          have hc31d := decide_eq_false hc31
          have HK32 := Lib.hid hc31
          try rw [← HP.len_I HOA.out (List.Mem.head _)] at hc31
          obtain rfl := Option.some.inj HL1.out
          have hm := HM.out; try dsimp only at hm
          replace HM := Lib.hid hm; clear hm
          obtain ⟨y66, hy64, hm⟩ := obind HM.out
          replace HM := Lib.hid hm; clear hm
          have HC65 := sList_ok W30  hy64
          clear hy64
          replace HC65 := Lib.hid HC65
          go_wp2_with fail
          refine HC65.out.mono ?_; rintro e W67 ⟨V68, rfl, ho, hd⟩
          try clear hc31 hc31d
          replace HOA := Lib.hid (HOA.out.call hd HD.out.size ho); clear ho
          replace HD := Lib.hid (HD.out.trans (hd.mono HD.out.size))
          clear hd
          obtain rfl := Option.some.inj HM.out
          go_wp2_with fail
          go_ret3
          exact ⟨_, rfl, HOA.out.get (List.Mem.head _), HD.out⟩
  · try rw [errV_pos _ hz7]
    have HZ8 := Lib.hid hz7; clear hz7
    replace HM := Lib.hid (ifT (bne_iff_ne.2 HZ8.out) HM.out)
    obtain rfl := Option.some.inj HM.out
    go_wp2_with fail
    try clear fb3
    go_ret3
    exact ⟨_, (by first | (rw [errV_pos _ HZ8.out]; rfl) | rw [errV_pos _ HZ8.out]), World.ownsRow_nil _ _ _ _, HD.out⟩
end Go.Proofs.YtfaemblfffbmfaaDoor
