import Derived.Test.YtecllcpjjllogaaDoorBox
import Derived.Test.YtecllcpjjllogaaDoorTl
import Derived.Test.YtecllcpjjllogaaDoorGR
set_option linter.all false
set_option maxRecDepth 100000
namespace Go.Proofs.YtecllcpjjllogaaDoor
open Go.RowKit
attribute [local go_sem] Oper.semAt_some
end Go.Proofs.YtecllcpjjllogaaDoor
set_option linter.all false
set_option maxRecDepth 100000
namespace Go.Proofs.YtecllcpjjllogaaDoor
open Go.RowKit
attribute [local go_sem] Oper.semAt_some
def walk_From_L1 (F : Nat) (nl : Int) : Nat → (Int) → (List Int) → Option (List Int)
  | 0, _, _ => none
  | g+1, j, v6 => if j < nl then (st v6 j (-1)).bind fun y4 => walk_From_L1 F nl g (wrap64 (j + 1)) (y4) else some (v6)
theorem walk_From_L1_0 (F : Nat) (nl : Int) (v6 : List Int) (j : Int) : walk_From_L1 F nl 0 j v6 = none := by rw [walk_From_L1]
theorem walk_From_L1_s (F g : Nat) (nl : Int) (v6 : List Int) (j : Int) : walk_From_L1 F nl (g+1) j v6 = (if j < nl then (st v6 j (-1)).bind fun y4 => walk_From_L1 F nl g (wrap64 (j + 1)) (y4) else some (v6)) := by rw [walk_From_L1]
def walk_From_L3 (F : Nat)  : List Nat → (List Int) → (List Int) → Option (List Int × List Int)
  | [], v6, v9 => some (v6, v9)
  | x :: xs, v6, v9 => ((ix v6 (x : Int)).bind fun y8 => if y8 < 0 then (ix v9 0).bind fun y10 => (ix v6 y10).bind fun y11 => (st v6 (x : Int) (wrap64 (y11 + 1))).bind fun y9 => (app v9 (x : Int)).bind fun y12 => walk_From_L3 F  xs (y9) (y12) else walk_From_L3 F  xs (v6) (v9))
theorem walk_From_L3_n (F : Nat) (v6 : List Int) (v9 : List Int) : walk_From_L3 F  [] v6 v9 = some (v6, v9) := by rw [walk_From_L3]
theorem walk_From_L3_c (F : Nat) (v6 : List Int) (v9 : List Int) (x : Nat) (xs : List Nat) : walk_From_L3 F  (x :: xs) v6 v9 = (((ix v6 (x : Int)).bind fun y8 => if y8 < 0 then (ix v9 0).bind fun y10 => (ix v6 y10).bind fun y11 => (st v6 (x : Int) (wrap64 (y11 + 1))).bind fun y9 => (app v9 (x : Int)).bind fun y12 => walk_From_L3 F  xs (y9) (y12) else walk_From_L3 F  xs (v6) (v9))) := by rw [walk_From_L3]
def walk_From_L2 (F : Nat) (v8 : List Nat) : Nat → (List Int) → (List Int) → Option (List Int × List Int)
  | 0, _, _ => none
  | g+1, v6, v9 => if 0 < ((v9).length : Int) then (ix v9 0).bind fun y15 => (ix v8 y15).bind fun y16 => (sEach y16).bind fun y14 => (walk_From_L3 F  y14 (v6) (v9)).bind fun o13 => (dr o13.2 1).bind fun y17 => walk_From_L2 F v8 g (o13.1) (y17) else some (v6, v9)
theorem walk_From_L2_0 (F : Nat) (v8 : List Nat) (v6 : List Int) (v9 : List Int) : walk_From_L2 F v8 0 v6 v9 = none := by rw [walk_From_L2]
theorem walk_From_L2_s (F g : Nat) (v8 : List Nat) (v6 : List Int) (v9 : List Int) : walk_From_L2 F v8 (g+1) v6 v9 = (if 0 < ((v9).length : Int) then (ix v9 0).bind fun y15 => (ix v8 y15).bind fun y16 => (sEach y16).bind fun y14 => (walk_From_L3 F  y14 (v6) (v9)).bind fun o13 => (dr o13.2 1).bind fun y17 => walk_From_L2 F v8 g (o13.1) (y17) else some (v6, v9)) := by rw [walk_From_L2]
def walk_From (F : Nat) (v0 : Int) (v1 : List (Int × Int)) (v2 : Int) : Option (List Int × Int) := (mCheck (v0) (v1)).bind fun y1 => (if (y1 != 0) = true then some (([], y1)) else ((core_Within F (v2) (0) ((wrap64 (v0 - 1)))).bind fun y2 => if y2 = true then (mkI v0).bind fun y3 => (walk_From_L1 F (((y3).length : Int)) F (0) (y3)).bind fun o5 => (st o5 v2 0).bind fun y6 => (mBeside (v0) (v1)).bind fun y7 => (walk_From_L2 F (y7) F (y6) ([v2])).bind fun o18 => some ((o18.1, 0)) else some (([], 1))))
set_option maxRecDepth 100000 in
set_option maxHeartbeats 4000000 in
theorem walk_From_ok {F : Nat} {v0 : Int} {v1 : List (Int × Int)} {A1 : Option Addr} {v2 : Int} {r : List Int × Int} (w : World) (cap1 : Nat) (hr1 : ReadsL w w.heap.size A1 v1) (h : walk_From F v0 v1 v2 = some r) :
    Calls Tryd.prog 12 #[.int .i64 v0, .slice A1 v1.length cap1, .int .i64 v2] w (PostG (fun v => (.tuple #[v, (errV 51 r.2)])) (fun v => owI v r.1) w.heap.size w) := by
  have HR1 := Lib.hid hr1; clear hr1
  have HD := Lib.hid (Below.refl w.heap.size w)
  have HOA := Lib.hid (HP.nil (W := w) (B := w.heap.size))
  unfold walk_From at h
  have HM := Lib.hid h; clear h
  have HMK := Lib.hid (Marks.nil w.heap.size w)
  refine (callsIn_wide (n := 5)).1 ?_
  refine callsIn_of_wp_marks Tryd.func12 rfl trivial ?_ rfl
  simp only [Tryd.ntmps12, List.size_toArray, List.length_cons, List.length_nil, Nat.reduceAdd, Nat.reduceSub, Array.replicate_succ, Array.replicate_zero, List.push_toArray, List.append_toArray, List.nil_append, List.cons_append]
  refine wpIn_wide.2 ?_
  obtain ⟨y3, hy1, hm⟩ := obind HM.out
  replace HM := Lib.hid hm; clear hm
  have HC2 := mCheck_ok w cap1 (rdL HD.out HR1.out) hy1
  clear hy1
  by_cases hz4 : y3 = 0
  · subst hz4
    rw [errV_zero] at HC2; replace HC2 := Lib.hid HC2
    go_wp2_with fail
    refine HC2.out.mono ?_; rintro e W5 ⟨rfl, hd⟩
    replace HOA := Lib.hid (HOA.out.below hd)
    replace HD := Lib.hid (HD.out.trans (hd.mono HD.out.size))
    replace HMK := Lib.hid (HMK.out.nc (NC.of_below hd))
    clear hd
    replace HM := Lib.hid (ifF (by decide) HM.out)
    obtain ⟨y10, hy8, hm⟩ := obind HM.out
    replace HM := Lib.hid hm; clear hm
    have HC9 := core_Within_ok W5  hy8
    clear hy8
    replace HC9 := Lib.hid HC9
    cases y10
    · replace HM := Lib.hid (ifF Bool.false_ne_true HM.out)
      obtain rfl := Option.some.inj HM.out
      go_wp2_with fail
      refine HC9.out.mono ?_; rintro e w' ⟨rfl, rfl⟩
      go_wp2_with fail
      refine leave_marks (B := w.heap.size) _ _ HMK.out (fun W' => results_tmp2 rfl _ _ _) (fun W' hk => ⟨_, rfl, World.ownsRow_nil _ _ _ _, hk.below HD.out (Nat.le_refl _) (Nat.le_refl _)⟩)
    · replace HM := Lib.hid (ifT rfl HM.out)
      go_wp2_with fail
      refine HC9.out.mono ?_; rintro e w' ⟨rfl, rfl⟩
      obtain ⟨y11, hy12, hm⟩ := obind HM.out
      replace HM := Lib.hid hm; clear hm
      obtain ⟨f13, hy12⟩ := mkI_some hy12
      obtain ⟨N17, hN18⟩ : ∃ N, Int.toNat v0 = N := ⟨_, rfl⟩
      rw [hN18] at hy12; subst hy12
      have hmk14 := run_makeI f13; simp only [hN18] at hmk14
      have hd : Below W5.heap.size W5 (W5.alloc (.cells (Array.replicate N17 (Value.int .i64 0)) 3)) := (Below.refl _ _).alloc (Nat.le_refl _) _
      have ho := mkI_ok W5 f13; rw [hN18] at ho; clear hN18
      have ho2 := owX_ok (W5.alloc (.cells (Array.replicate N17 (Value.int .i64 0)) 3)) 29 (.slice (some ⟨W5.heap.size, 0, none⟩) N17 N17)
      have hd2 : Below (World.heap (W5.alloc (.cells (Array.replicate N17 (Value.int .i64 0)) 3))).size (W5.alloc (.cells (Array.replicate N17 (Value.int .i64 0)) 3)) (World.alloc (W5.alloc (.cells (Array.replicate N17 (Value.int .i64 0)) 3)) (.cells #[(.slice (some ⟨W5.heap.size, 0, none⟩) N17 N17)] 29)) := (Below.refl _ _).alloc (Nat.le_refl _) _
      have hoa := (HOA.out.call hd HD.out.size ho).call hd2 (Nat.le_trans HD.out.size hd.size) ho2
      replace hd := hd.trans (hd2.mono hd.size)
      simp only [World.size_alloc] at hoa
      clear ho ho2 hd2
      go_upto_region 7 with (fail)
      generalize hW : World.alloc (World.alloc W5 _) _ = W15 at *
      clear hW hmk14 f13
      replace HOA := Lib.hid hoa; clear hoa
      replace HD := Lib.hid (HD.out.trans (hd.mono HD.out.size))
      replace HMK := Lib.hid (HMK.out.nc (NC.of_below hd))
      clear hd
      have fb20 := HP.bx HOA.out (List.Mem.head _)
      go_wp2_with fail
      try clear fb20
      obtain ⟨o21, ho, hm⟩ := obind HM.out
      try rw [List.length_replicate] at ho
      replace HM := Lib.hid hm; have HL1 := Lib.hid ho; clear hm ho
      go_loopg [30] F (fun gg uj wr => ∃ (j23 : Int) (x22 : List Int), uj = .int .i64 j23 ∧ Hid (Below w.heap.size w wr) ∧ Hid (HP wr w.heap.size [.fl (owX 29 (some ⟨(W5.heap.size + 1), 0, none⟩) ((.slice (some ⟨W5.heap.size, 0, none⟩) N17 N17))), .fl (owI (.slice (some ⟨W5.heap.size, 0, none⟩) N17 N17) (x22))]) ∧ Hid (Marks w.heap.size [] wr) ∧ Hid (walk_From_L1 F (((N17 : Nat) : Int)) gg j23 x22 = some o21))
      case atStart => exact ⟨0, (List.replicate N17 0), rfl, HD, HOA, HMK, HL1⟩
      case round =>
        obtain ⟨j23, x22, rfl, HD, HOA, HMK, HL1⟩ := hrel
        rename World => W24
        cases gk with
        | zero => exact absurd ((walk_From_L1_0 ..).symm.trans HL1.out) (by intro h; cases h)
        | succ g1 =>
          replace HL1 := Lib.hid ((walk_From_L1_s ..).symm.trans HL1.out)
          by_cases hc25 : j23 < ((N17 : Nat) : Int)
          · replace HL1 := Lib.hid (ifT hc25 HL1.out)
            have HK26 := Lib.hid hc25
            have fb27 := HP.bx HOA.out (List.Mem.head _)
            obtain ⟨y30, hy29, hm⟩ := obind HL1.out
            replace HL1 := Lib.hid hm; clear hm
            obtain ⟨f31, hy29⟩ := st_some hy29; subst hy29
            obtain ⟨g37, ea, f34, ⟨ux36, f35⟩, hp, hb⟩ := HP.setI (x := (-1)) (its1 := [_]) HOA.out f31
            cases ea
            obtain ⟨q0, q1⟩ := f31
            try rw [← HP.len_I HOA.out (List.Mem.tail _ (List.Mem.head _))] at q1
            have HP_ := Lib.hid hp; have HB_ := Lib.hid hb; clear hp hb
            replace HMK := Lib.hid (HMK.out.nc (ncOf HP_.out))
            go_wp2_with fail
            have hp := HP_.out; have hb := HB_.out; clear HP_ HB_
            generalize hW : World.setCell W24 _ _ = W28 at *
            clear hW
            try clear f34 f35 q0 q1 hc25 fb27
            replace HOA := Lib.hid (show HP W28 w.heap.size [.fl (owX 29 (some ⟨(W5.heap.size + 1), 0, none⟩) ((.slice (some ⟨W5.heap.size, 0, none⟩) N17 N17))), .fl (owI (.slice (some ⟨W5.heap.size, 0, none⟩) N17 N17) ((List.set x22 (Int.toNat j23) (-1))))] from hp); clear hp
            replace HD := Lib.hid (HD.out.trans hb); clear hb
            go_wp2_with fail
            go_roundg g1
            case measure => omega
            case rel => exact ⟨(wrap64 (j23 + 1)), (List.set x22 (Int.toNat j23) (-1)), rfl, HD, HOA, HMK, HL1⟩
          · replace HL1 := Lib.hid (ifF hc25 HL1.out)
            have hc25d := decide_eq_false hc25
            have HK26 := Lib.hid hc25
            obtain rfl := Option.some.inj HL1.out
            have hm := HM.out; try dsimp only at hm
            replace HM := Lib.hid hm; clear hm
            have fb41 := HP.bx HOA.out (List.Mem.head _)
            obtain ⟨y44, hy43, hm⟩ := obind HM.out
            replace HM := Lib.hid hm; clear hm
            obtain ⟨f45, hy43⟩ := st_some hy43; subst hy43
            obtain ⟨g51, ea, f48, ⟨ux50, f49⟩, hp, hb⟩ := HP.setI (x := 0) (its1 := [_]) HOA.out f45
            cases ea
            obtain ⟨q0, q1⟩ := f45
            try rw [← HP.len_I HOA.out (List.Mem.tail _ (List.Mem.head _))] at q1
            have HP_ := Lib.hid hp; have HB_ := Lib.hid hb; clear hp hb
            replace HMK := Lib.hid (HMK.out.nc (ncOf HP_.out))
            go_upto_region 13 with (fail)
            have hp := HP_.out; have hb := HB_.out; clear HP_ HB_
            generalize hW : World.setCell W24 _ _ = W42 at *
            clear hW
            try clear f48 f49 q0 q1 hc25 hc25d fb41
            replace HOA := Lib.hid (show HP W42 w.heap.size [.fl (owX 29 (some ⟨(W5.heap.size + 1), 0, none⟩) ((.slice (some ⟨W5.heap.size, 0, none⟩) N17 N17))), .fl (owI (.slice (some ⟨W5.heap.size, 0, none⟩) N17 N17) ((List.set x22 (Int.toNat v2) 0)))] from hp); clear hp
            replace HD := Lib.hid (HD.out.trans hb); clear hb
            obtain ⟨y57, hy55, hm⟩ := obind HM.out
            replace HM := Lib.hid hm; clear hm
            have HC56 := mBeside_ok W42 cap1 (rdL HD.out HR1.out) hy55
            clear hy55
            replace HC56 := Lib.hid HC56
            go_wp2_with fail
            refine HC56.out.mono ?_; rintro e W58 ⟨V59, rfl, ho, hd⟩
            replace HOA := Lib.hid (HOA.out.call hd HD.out.size ho); clear ho
            replace HD := Lib.hid (HD.out.trans (hd.mono HD.out.size))
            replace HMK := Lib.hid (HMK.out.nc (NC.of_below hd))
            clear hd
            have hd : Below W58.heap.size W58 (World.alloc W58 (.cells #[Value.int .i64 (v2)] 3)) := (Below.refl _ _).alloc (Nat.le_refl _) _
            have ho : (owI (.slice (some ⟨W58.heap.size, 0, none⟩) 1 1) [v2]).ok (World.alloc W58 (.cells #[Value.int .i64 (v2)] 3)) W58.heap.size := litI_ok W58 [v2] (by unfold maxLen; simp)
            replace HOA := Lib.hid (HOA.out.call hd HD.out.size ho); clear ho
            replace HD := Lib.hid (HD.out.trans (hd.mono HD.out.size))
            replace HMK := Lib.hid (HMK.out.nc (NC.of_below hd))
            clear hd
            have hd : Below (World.heap (World.alloc W58 (.cells #[Value.int .i64 (v2)] 3))).size (World.alloc W58 (.cells #[Value.int .i64 (v2)] 3)) (World.alloc (World.alloc W58 (.cells #[Value.int .i64 (v2)] 3)) (.cells #[(.slice (some ⟨W58.heap.size, 0, none⟩) 1 1)] 29)) := (Below.refl _ _).alloc (Nat.le_refl _) _
            have ho := owX_ok (World.alloc W58 (.cells #[Value.int .i64 (v2)] 3)) 29 ((.slice (some ⟨W58.heap.size, 0, none⟩) 1 1))
            replace HOA := Lib.hid (HOA.out.call hd HD.out.size ho); clear ho
            simp only [World.size_alloc] at HOA
            replace HD := Lib.hid (HD.out.trans (hd.mono HD.out.size))
            replace HMK := Lib.hid (HMK.out.nc (NC.of_below hd))
            clear hd
            go_upto_region 15 with (fail)
            generalize hW : World.alloc (World.alloc W58 _) _ = W61 at *
            clear hW
            replace HOA := Lib.hid (HP.toTl (its1 := [_]) HOA.out)
            replace HOA := Lib.hid (show HP _ _ [.fl (owX 29 (some ⟨(W58.heap.size + 1), 0, none⟩) ((.slice (some ⟨W58.heap.size, 0, none⟩) 1 1))), .tl (.slice (some ⟨W58.heap.size, 0, none⟩) 1 1) ([v2]), .fl (owM V59 (y57)), .fl (owX 29 (some ⟨(W5.heap.size + 1), 0, none⟩) ((.slice (some ⟨W5.heap.size, 0, none⟩) N17 N17))), .fl (owI (.slice (some ⟨W5.heap.size, 0, none⟩) N17 N17) ((List.set x22 (Int.toNat v2) 0)))] from HOA.out)
            go_wp2_with fail
            obtain ⟨o64, ho, hm⟩ := obind HM.out
            replace HM := Lib.hid hm; have HL2 := Lib.hid ho; clear hm ho
            refine wp_loop_marks _ [false, false, false, false, false, false, false, false, false, false, false, false, true, true, false, false, false, false, false, false, false, false, false, false, false, false, false, false, false, false, false, false, false, false, false, false, false, false, false, false, false, false, false, false, false, true, true, true, true, true, true, true, true, true, true, true, true, false, true, true, true, true, true, true, true, true, true, true, true, true, true, true, true, true, true, true, true, true, false] (fun gg fk2 dsk2 wr => ∃ (x65 : List Int) (x66 : List Int) (V67 : Value) (g68 : Nat), (fk2 12) = .pointer (some ⟨g68, 0, none⟩) ∧ Hid (Below w.heap.size w wr) ∧ Hid (HP wr w.heap.size [.fl (owX 29 (some ⟨g68, 0, none⟩) (V67)), .tl V67 (x66), .fl (owM V59 (y57)), .fl (owX 29 (some ⟨(W5.heap.size + 1), 0, none⟩) ((.slice (some ⟨W5.heap.size, 0, none⟩) N17 N17))), .fl (owI (.slice (some ⟨W5.heap.size, 0, none⟩) N17 N17) (x65))]) ∧ Hid (Marks w.heap.size dsk2 wr) ∧ Hid (walk_From_L2 F (y57) gg x65 x66 = some o64)) F _ (by simp only [agreeB, and_self, true_and]) ⟨(List.set x22 (Int.toNat v2) 0), [v2], (.slice (some ⟨W58.heap.size, 0, none⟩) 1 1), _, rfl, HD, HOA, HMK, HL2⟩ ?round
            case round =>
              intro gk fk2 dsk2 wr hrel _ _ hJ2 _
              obtain ⟨x65, x66, V67, g68, hf69, HD, HOA, HMK, HL2⟩ := hrel
              simp only [setB, Nat.reduceAdd, hf69]
              clear hf69
              rename World => W70
              cases gk with
              | zero => exact absurd ((walk_From_L2_0 ..).symm.trans HL2.out) (by intro h; cases h)
              | succ g2 =>
                replace HL2 := Lib.hid ((walk_From_L2_s ..).symm.trans HL2.out)
                obtain ⟨A71, cap72, he, _⟩ := HP.open_T HOA.out (List.Mem.tail _ (List.Mem.head _))
                subst he
                have fb73 := HP.bx HOA.out (List.Mem.head _)
                by_cases hc74 : 0 < ((x66).length : Int)
                · replace HL2 := Lib.hid (ifT hc74 HL2.out)
                  have HK75 := Lib.hid hc74
                  have hc74n := hc74; try norm_cast at hc74n
                  obtain ⟨y76, hy77, hm⟩ := obind HL2.out
                  replace HL2 := Lib.hid hm; clear hm
                  obtain ⟨b78, o79, ea80, _, f81, f82, f83⟩ := ReadsI.ix (HP.rd_T HOA.out (List.Mem.tail _ (List.Mem.head _))) hy77
                  cases ea80
                  try simp only [Nat.zero_add, Nat.add_zero, Int.toNat_natCast, Int.toNat_zero, Int.toNat_one] at f83
                  have f82n := f82; try norm_cast at f82n
                  try rw [← HP.len_T HOA.out (List.Mem.tail _ (List.Mem.head _))] at f82
                  have HY85 := Lib.hid hy77; clear hy77
                  obtain ⟨A88, cap89, he, _⟩ := HP.open_M HOA.out (List.Mem.tail _ (List.Mem.tail _ (List.Mem.head _)))
                  subst he
                  obtain ⟨y86, hy87, hm⟩ := obind HL2.out
                  replace HL2 := Lib.hid hm; clear hm
                  obtain ⟨b90, o91, ea92, _, f93, f94, f95⟩ := ReadsM.ix (HP.rd_M HOA.out (List.Mem.tail _ (List.Mem.tail _ (List.Mem.head _)))) hy87
                  cases ea92
                  try simp only [Nat.zero_add, Nat.add_zero, Int.toNat_natCast, Int.toNat_zero, Int.toNat_one] at f95
                  try rw [← HP.len_M HOA.out (List.Mem.tail _ (List.Mem.tail _ (List.Mem.head _)))] at f94
                  have HY97 := Lib.hid hy87; clear hy87
                  obtain ⟨y98, hy99, hm⟩ := obind HL2.out
                  replace HL2 := Lib.hid hm; clear hm
                  obtain ⟨hlt, hml⟩ := s_of hy99
                  have HLT101 := Lib.hid hlt; have HML102 := Lib.hid hml; clear hlt hml hy99
                  obtain ⟨o100, ho, hm⟩ := obind HL2.out
                  replace HL2 := Lib.hid hm; have HL3 := Lib.hid ho; clear hm ho
                  go_wp2_with fail
                  refine (each_any _ _).mono ?_; rintro e w' ⟨rfl, rfl⟩
                  go_wp2_with fail
                  try clear fb73 hc74 hc74n f81 f82 f83 f82n f93 f94 f95
                  have hd : Below W70.heap.size W70 (W70.alloc (.cells #[.int .u64 (((y86) : Nat) : Int)] 42)) := (Below.refl _ _).alloc (Nat.le_refl _) _
                  have ho := owX_ok W70 42 (.int .u64 (((y86) : Nat) : Int))
                  generalize hW : World.alloc W70 _ = W103 at *
                  clear hW
                  replace HOA := Lib.hid (HOA.out.call hd HD.out.size ho); clear ho
                  replace HD := Lib.hid (HD.out.trans (hd.mono HD.out.size))
                  replace HMK := Lib.hid (HMK.out.nc (NC.of_below hd))
                  clear hd
                  have HDk108 := HD
                  refine (wpIn_wide (n := 5)).1 (wp_each2 (m := y86) (Bs := W70.heap.size) (by omega) HLT101.out rfl (HP.bx HOA.out (List.Mem.head _)) rfl (fun rest W => ∃ (x105 : List Int) (x106 : List Int) (V107 : Value), Hid (Below w.heap.size w W) ∧ Hid (NC W103 W) ∧ Hid (HP W w.heap.size [.fl (owX 42 (some ⟨W70.heap.size, 0, none⟩) (.int .u64 (((y86) : Nat) : Int))), .fl (owX 29 (some ⟨g68, 0, none⟩) (V107)), .tl V107 (x106), .fl (owM (.slice (some ⟨b90, o91, none⟩) (y57).length cap89) (y57)), .fl (owX 29 (some ⟨(W5.heap.size + 1), 0, none⟩) ((.slice (some ⟨W5.heap.size, 0, none⟩) N17 N17))), .fl (owI (.slice (some ⟨W5.heap.size, 0, none⟩) N17 N17) (x105))]) ∧ Hid (walk_From_L3 F  rest x105 x106 = some o100)) (fun _ _ => False) ?hI ?hIx ⟨x65, x66, (.slice (some ⟨b78, o79, none⟩) (x66).length cap72), HD, Lib.hid (NC.refl _), HOA, by rw [HML102.out]; exact HL3⟩ ?a1 ?assign ?body ?done ?stop)
                  case hI =>
                    rintro rest W W' ⟨x105, x106, V107, hd, hn, hh, hl⟩ hk
                    exact ⟨x105, x106, V107, Lib.hid (hk.below hd.out HDk108.out.size (Nat.le_refl _)), Lib.hid (hn.out.keepC hk (Nat.le_refl _)), Lib.hid (hh.out.keepC hk), hl⟩
                  case hIx => exact fun _ _ _ h _ => h
                  case assign =>
                    intro l x W K hK
                    gi_wp2
                    exact hK
                  case body =>
                    rintro l109 xn110 rest W111 hx ⟨x105, x106, V107, HD, HN, HOA, HL3⟩ _ _ _ hJ113 hJx114 _ hQ112
                    replace HL3 := Lib.hid ((walk_From_L3_c ..).symm.trans HL3.out)
                    have HNB := Lib.hid (NC.refl W111)
                    have fb115 := HP.bx HOA.out (List.Mem.tail _ (List.Mem.tail _ (List.Mem.tail _ (List.Mem.tail _ (List.Mem.head _)))))
                    obtain ⟨y116, hy117, hm⟩ := obind HL3.out
                    replace HL3 := Lib.hid hm; clear hm
                    obtain ⟨b118, o119, ea120, _, f121, f122, f123⟩ := ReadsI.ix (HP.rd_I HOA.out (List.Mem.tail _ (List.Mem.tail _ (List.Mem.tail _ (List.Mem.tail _ (List.Mem.tail _ (List.Mem.head _))))))) hy117
                    cases ea120
                    try simp only [Nat.zero_add, Nat.add_zero, Int.toNat_natCast, Int.toNat_zero, Int.toNat_one] at f123
                    try rw [← HP.len_I HOA.out (List.Mem.tail _ (List.Mem.tail _ (List.Mem.tail _ (List.Mem.tail _ (List.Mem.tail _ (List.Mem.head _))))))] at f122
                    have HY125 := Lib.hid hy117; clear hy117
                    by_cases hc126 : y116 < 0
                    · replace HL3 := Lib.hid (ifT hc126 HL3.out)
                      have HK127 := Lib.hid hc126
                      try gi_wp2_with fail
                      try clear fb115 f121 f122 f123 hc126
                      obtain ⟨A128, cap129, he, _⟩ := HP.open_T HOA.out (List.Mem.tail _ (List.Mem.tail _ (List.Mem.head _)))
                      subst he
                      have fb130 := HP.bx HOA.out (List.Mem.tail _ (List.Mem.head _))
                      obtain ⟨y131, hy132, hm⟩ := obind HL3.out
                      replace HL3 := Lib.hid hm; clear hm
                      obtain ⟨b133, o134, ea135, _, f136, f137, f138⟩ := ReadsI.ix (HP.rd_T HOA.out (List.Mem.tail _ (List.Mem.tail _ (List.Mem.head _)))) hy132
                      cases ea135
                      try simp only [Nat.zero_add, Nat.add_zero, Int.toNat_natCast, Int.toNat_zero, Int.toNat_one] at f138
                      have f137n := f137; try norm_cast at f137n
                      try rw [← HP.len_T HOA.out (List.Mem.tail _ (List.Mem.tail _ (List.Mem.head _)))] at f137
                      have HY140 := Lib.hid hy132; clear hy132
                      have fb141 := HP.bx HOA.out (List.Mem.tail _ (List.Mem.tail _ (List.Mem.tail _ (List.Mem.tail _ (List.Mem.head _)))))
                      obtain ⟨y142, hy143, hm⟩ := obind HL3.out
                      replace HL3 := Lib.hid hm; clear hm
                      obtain ⟨b144, o145, ea146, _, f147, f148, f149⟩ := ReadsI.ix (HP.rd_I HOA.out (List.Mem.tail _ (List.Mem.tail _ (List.Mem.tail _ (List.Mem.tail _ (List.Mem.tail _ (List.Mem.head _))))))) hy143
                      cases ea146
                      try simp only [Nat.zero_add, Nat.add_zero, Int.toNat_natCast, Int.toNat_zero, Int.toNat_one] at f149
                      try rw [← HP.len_I HOA.out (List.Mem.tail _ (List.Mem.tail _ (List.Mem.tail _ (List.Mem.tail _ (List.Mem.tail _ (List.Mem.head _))))))] at f148
                      have HY151 := Lib.hid hy143; clear hy143
                      obtain ⟨y154, hy153, hm⟩ := obind HL3.out
                      replace HL3 := Lib.hid hm; clear hm
                      obtain ⟨f155, hy153⟩ := st_some hy153; subst hy153
                      obtain ⟨g161, ea, f158, ⟨ux160, f159⟩, hp, hb⟩ := HP.setI (x := (wrap64 (y142 + 1))) (its1 := [_, _, _, _, _]) HOA.out f155
                      cases ea
                      obtain ⟨q0, q1⟩ := f155
                      try rw [← HP.len_I HOA.out (List.Mem.tail _ (List.Mem.tail _ (List.Mem.tail _ (List.Mem.tail _ (List.Mem.tail _ (List.Mem.head _))))))] at q1
                      try simp only [Int.toNat_natCast] at f158 f159 hp hb
                      have HP_ := Lib.hid hp; have HB_ := Lib.hid hb; clear hp hb
                      replace HNB := Lib.hid (HNB.out.trans ((ncOf HP_.out).trans (NC.drew _)))
                      refine wpIn_region_still_tail (open_round l109) 10 (by kernel_rfl) (by kernel_rfl) (by kernel_rfl) ?_; simp only [List.take_succ_cons, List.take_zero, List.drop_succ_cons, List.drop_zero]; repeat still_step; try refine wpStill_nil ?_
                      change wpListIn _ _ _ _ _ _ _ (World.drew W111)
                      gi_upto_region 21 with (fail)
                      have hp := HP_.out.dr (Dr.one _); have hb := HB_.out.trans ((Dr.one _).below _); clear HP_ HB_
                      generalize hW : World.drew (World.setCell W111 _ _) = W152 at *
                      clear hW
                      try clear f158 f159 q0 q1 fb130 f136 f137 f138 f137n fb141 f147 f148 f149
                      replace HOA := Lib.hid (show HP W152 w.heap.size [.fl (owX 42 (some ⟨W70.heap.size, 0, none⟩) (.int .u64 (((y86) : Nat) : Int))), .fl (owX 29 (some ⟨g68, 0, none⟩) ((.slice (some ⟨b133, o134, none⟩) (x106).length cap129))), .tl (.slice (some ⟨b133, o134, none⟩) (x106).length cap129) (x106), .fl (owM (.slice (some ⟨b90, o91, none⟩) (y57).length cap89) (y57)), .fl (owX 29 (some ⟨(W5.heap.size + 1), 0, none⟩) ((.slice (some ⟨W5.heap.size, 0, none⟩) N17 N17))), .fl (owI (.slice (some ⟨W5.heap.size, 0, none⟩) N17 N17) ((List.set x105 (Int.toNat (xn110 : Int)) (wrap64 (y142 + 1)))))] from hp); clear hp
                      replace HD := Lib.hid (HD.out.trans hb); clear hb
                      have fb165 := HP.bx HOA.out (List.Mem.tail _ (List.Mem.head _))
                      obtain ⟨y166, hy167, hm⟩ := obind HL3.out
                      replace HL3 := Lib.hid hm; clear hm
                      obtain ⟨f168, hy167⟩ := app_some hy167; subst hy167
                      obtain ⟨V169, W170, hrun, hoa, hb, hn⟩ := run_appT (e' := 3) (y := (xn110 : Int)) (L1 := [_, _]) W152 29 29 Tryd.underlying29 HOA.out f168 HD.out.size
                      obtain ⟨A171, cap172, he, _⟩ := HP.open_T hoa (List.Mem.tail _ (List.Mem.tail _ (List.Mem.head _)))
                      obtain ⟨n173, hn3⟩ : ∃ n, List.length (x106 ++ [(xn110 : Int)]) = n := ⟨_, rfl⟩
                      rw [hn3] at he; subst he; clear hn3
                      obtain ⟨q0, q1, hp, hb2⟩ := HP.setBx (its1 := [_]) hoa (.slice A171 n173 cap172)
                      have HP_ := Lib.hid hp; have HB_ := Lib.hid hb2; clear hp hb2 hoa
                      have HR_ := Lib.hid hrun; have HN_ := Lib.hid hn; have HOB := Lib.hid hb; clear hrun hn hb
                      gi_wp2_with (gi_at_builtin; refine wpIn_appRun HR_.out rfl rfl rfl rfl ?_)
                      have hp := HP_.out; clear HP_ HR_
                      replace HNB := Lib.hid (HNB.out.trans (HN_.out.trans (NC.setCell W170 ⟨g68, 0, none⟩ (.slice A171 n173 cap172))))
                      have hb := HOB.out.trans HB_.out
                      generalize hW : World.setCell W170 _ _ = W174 at *
                      clear hW HB_ HOB HN_
                      try clear q0 q1 fb165
                      replace HOA := Lib.hid (show HP W174 w.heap.size [.fl (owX 42 (some ⟨W70.heap.size, 0, none⟩) (.int .u64 (((y86) : Nat) : Int))), .fl (owX 29 (some ⟨g68, 0, none⟩) ((.slice A171 n173 cap172))), .tl (.slice A171 n173 cap172) ((x106 ++ [(xn110 : Int)])), .fl (owM (.slice (some ⟨b90, o91, none⟩) (y57).length cap89) (y57)), .fl (owX 29 (some ⟨(W5.heap.size + 1), 0, none⟩) ((.slice (some ⟨W5.heap.size, 0, none⟩) N17 N17))), .fl (owI (.slice (some ⟨W5.heap.size, 0, none⟩) N17 N17) ((List.set x105 (Int.toNat (xn110 : Int)) (wrap64 (y142 + 1)))))] from hp); clear hp
                      replace HD := Lib.hid (HD.out.trans hb); clear hb
                      gi_wp2_with fail
                      exact ⟨HNB.out, HP.bx HOA.out (List.Mem.head _), hJ113 _ ⟨(List.set x105 (Int.toNat (xn110 : Int)) (wrap64 (y142 + 1))), (x106 ++ [(xn110 : Int)]), (.slice A171 n173 cap172), HD, Lib.hid (HN.out.trans HNB.out), HOA, HL3⟩⟩
                    · replace HL3 := Lib.hid (ifF hc126 HL3.out)
                      have hc126d := decide_eq_false hc126
                      have HK127 := Lib.hid hc126
                      gi_wp2_with fail
                      try clear fb115 f121 f122 f123 hc126 hc126d
                      exact ⟨HNB.out, HP.bx HOA.out (List.Mem.head _), hJ113 _ ⟨x105, x106, V107, HD, Lib.hid (HN.out.trans HNB.out), HOA, HL3⟩⟩
                  case done =>
                    rintro D175 W176 hD ⟨x105, x106, V107, HD, HN, HOA, HL3⟩ hK
                    have hov := Option.some.inj ((walk_From_L3_n ..).symm.trans HL3.out)
                    replace HMK := Lib.hid (HMK.out.push HN.out hD HDk108.out.size hK); clear hK hD HN
                    subst hov
                    have hm := HL2.out; try dsimp only at hm
                    replace HL2 := Lib.hid hm; clear hm
                    obtain ⟨A177, cap178, he, _⟩ := HP.open_T HOA.out (List.Mem.tail _ (List.Mem.tail _ (List.Mem.head _)))
                    subst he
                    have fb179 := HP.bx HOA.out (List.Mem.tail _ (List.Mem.head _))
                    go_upto_region 16 with (fail)
                    have hd : Below W176.heap.size W176 (W176.alloc (.cells #[(.slice A177 (x106).length cap178)] 29)) := (Below.refl _ _).alloc (Nat.le_refl _) _
                    have ho := owX_ok W176 29 ((.slice A177 (x106).length cap178))
                    generalize hW : World.alloc W176 _ = W180 at *
                    clear hW
                    try clear fb179
                    replace HOA := Lib.hid (HOA.out.call hd HD.out.size ho); clear ho
                    replace HD := Lib.hid (HD.out.trans (hd.mono HD.out.size))
                    replace HMK := Lib.hid (HMK.out.nc (NC.of_below hd))
                    clear hd
                    replace HOA := Lib.hid (HOA.out.sub (.cons₂ _ (.cons₂ _ (.cons _ (.cons₂ _ (.cons₂ _ (.cons₂ _ (.cons₂ _ .slnil))))))))
                    have fb182 := HP.bx HOA.out (List.Mem.head _)
                    obtain ⟨y183, hy184, hm⟩ := obind HL2.out
                    replace HL2 := Lib.hid hm; clear hm
                    obtain ⟨f185, hy184⟩ := dr_some hy184; subst hy184
                    obtain ⟨A186, n189, cap187, hsl188, hp⟩ := HP.sliceT (its1 := [_, _]) HOA.out f185
                    clear f185
                    replace HOA := Lib.hid (show HP W180 w.heap.size [.fl (owX 29 (some ⟨W176.heap.size, 0, none⟩) ((.slice A177 (x106).length cap178))), .fl (owX 42 (some ⟨W70.heap.size, 0, none⟩) (.int .u64 (((y86) : Nat) : Int))), .tl (.slice A186 n189 cap187) ((List.drop (Int.toNat 1) x106)), .fl (owM (.slice (some ⟨b90, o91, none⟩) (y57).length cap89) (y57)), .fl (owX 29 (some ⟨(W5.heap.size + 1), 0, none⟩) ((.slice (some ⟨W5.heap.size, 0, none⟩) N17 N17))), .fl (owI (.slice (some ⟨W5.heap.size, 0, none⟩) N17 N17) (x105))] from hp); clear hp
                    obtain ⟨q0, q1, hp, hb⟩ := HP.setBx (its1 := []) HOA.out ((.slice A186 n189 cap187))
                    have HP_ := Lib.hid hp; have HB_ := Lib.hid hb; clear hp hb
                    go_wp2_with fail
                    have hp := HP_.out; have hb := HB_.out; clear HP_ HB_
                    replace HMK := Lib.hid (HMK.out.nc (NC.setCell W180 ⟨W176.heap.size, 0, none⟩ ((.slice A186 n189 cap187))))
                    generalize hW : World.setCell W180 _ _ = W190 at *
                    clear hW
                    try clear q0 q1 fb182 hsl188
                    replace HOA := Lib.hid (show HP W190 w.heap.size [.fl (owX 29 (some ⟨W176.heap.size, 0, none⟩) ((.slice A186 n189 cap187))), .fl (owX 42 (some ⟨W70.heap.size, 0, none⟩) (.int .u64 (((y86) : Nat) : Int))), .tl (.slice A186 n189 cap187) ((List.drop (Int.toNat 1) x106)), .fl (owM (.slice (some ⟨b90, o91, none⟩) (y57).length cap89) (y57)), .fl (owX 29 (some ⟨(W5.heap.size + 1), 0, none⟩) ((.slice (some ⟨W5.heap.size, 0, none⟩) N17 N17))), .fl (owI (.slice (some ⟨W5.heap.size, 0, none⟩) N17 N17) (x105))] from hp); clear hp
                    replace HD := Lib.hid (HD.out.trans hb); clear hb
                    go_wp2_with fail
                    replace HOA := Lib.hid (HOA.out.sub (.cons₂ _ (.cons _ (.cons₂ _ (.cons₂ _ (.cons₂ _ (.cons₂ _ .slnil)))))))
                    refine Handed.intro g2 (by omega) ?_
                    refine hJ2 _ _ _ ⟨by simp only [agreeB, and_self, true_and], x105, (List.drop (Int.toNat 1) x106), (.slice A186 n189 cap187), _, rfl, HD, HOA, HMK, HL2⟩
                  case stop => exact fun _ _ _ _ h _ => h.elim
                · replace HL2 := Lib.hid (ifF hc74 HL2.out)
                  have hc74d := decide_eq_false hc74
                  have HK75 := Lib.hid hc74
                  have hc74n := hc74; try norm_cast at hc74n
                  obtain rfl := Option.some.inj HL2.out
                  have hm := HM.out; try dsimp only at hm
                  replace HM := Lib.hid hm; clear hm
                  have fb191 := HP.bx HOA.out (List.Mem.tail _ (List.Mem.tail _ (List.Mem.tail _ (List.Mem.head _))))
                  obtain rfl := Option.some.inj HM.out
                  go_wp2_with fail
                  try clear fb73 hc74 hc74n hc74d fb191
                  refine leave_marks (B := w.heap.size) _ _ HMK.out (fun W' => results_tmp2 rfl _ _ _) (fun W' hk => ⟨_, rfl, (HOA.out.keepC hk).get (List.Mem.tail _ (List.Mem.tail _ (List.Mem.tail _ (List.Mem.tail _ (List.Mem.head _))))), hk.below HD.out (Nat.le_refl _) (Nat.le_refl _)⟩)
  · rw [errV_pos _ hz4] at HC2; replace HC2 := Lib.hid HC2
    go_wp2_with fail
    refine HC2.out.mono ?_; rintro e W6 ⟨rfl, hd⟩
    replace HOA := Lib.hid (HOA.out.below hd)
    replace HD := Lib.hid (HD.out.trans (hd.mono HD.out.size))
    replace HMK := Lib.hid (HMK.out.nc (NC.of_below hd))
    clear hd
    have HZ7 := Lib.hid hz4; clear hz4
    replace HM := Lib.hid (ifT (bne_iff_ne.2 HZ7.out) HM.out)
    obtain rfl := Option.some.inj HM.out
    go_wp2_with fail
    refine leave_marks (B := w.heap.size) _ _ HMK.out (fun W' => results_tmp2 rfl _ _ _) (fun W' hk => ⟨_, (by first | (rw [errV_pos _ HZ7.out]; rfl) | rw [errV_pos _ HZ7.out]), World.ownsRow_nil _ _ _ _, hk.below HD.out (Nat.le_refl _) (Nat.le_refl _)⟩)
end Go.Proofs.YtecllcpjjllogaaDoor
