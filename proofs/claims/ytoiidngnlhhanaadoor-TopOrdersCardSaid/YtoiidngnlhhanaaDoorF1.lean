import Derived.Test.YtoiidngnlhhanaaDoorCost
set_option linter.all false
set_option maxRecDepth 100000
namespace Go.Proofs.YtoiidngnlhhanaaDoor
open Go.RowKit
def mean_gcd_L1 (F : Nat)  : Nat → (Int) → (Int) → Option (Int × Int)
  | 0, _, _ => none
  | g+1, v0, v1 => if (v1 != 0) = true then (md v0 v1).bind fun y1 => mean_gcd_L1 F  g (v1) (y1) else some (v0, v1)
theorem mean_gcd_L1_0 (F : Nat) (v0 : Int) (v1 : Int) : mean_gcd_L1 F  0 v0 v1 = none := by rw [mean_gcd_L1]
theorem mean_gcd_L1_s (F g : Nat) (v0 : Int) (v1 : Int) : mean_gcd_L1 F  (g+1) v0 v1 = (if (v1 != 0) = true then (md v0 v1).bind fun y1 => mean_gcd_L1 F  g (v1) (y1) else some (v0, v1)) := by rw [mean_gcd_L1]
def mean_gcd (F : Nat) (v0 : Int) (v1 : Int) : Option (Int) := (mean_gcd_L1 F  F (v0) (v1)).bind fun o2 => some (o2.1)
set_option maxRecDepth 100000 in
set_option maxHeartbeats 1000000 in
theorem mean_gcd_ok {F : Nat} {v0 : Int} {v1 : Int} {r : Int} (w : World)  (h : mean_gcd F v0 v1 = some r) :
    Calls Tryd.prog 28 #[.int .i64 v0, .int .i64 v1] w fun e w' => e = .returned (.int .i64 r) ∧ Dr w w' := by
  have HD := Lib.hid (Dr.refl w)
  unfold mean_gcd at h
  have HM := Lib.hid h; clear h
  go_enter Tryd.func28, Tryd.ntmps28
  go_wp2_with fail
  obtain ⟨o1, ho, hm⟩ := obind HM.out
  replace HM := Lib.hid hm; have HL1 := Lib.hid ho; clear hm ho
  go_loopg [0, 1] F (fun gg ux4 ux5 wr => ∃ (x2 : Int) (x3 : Int), ux4 = .int .i64 x2 ∧ ux5 = .int .i64 x3 ∧ Hid (Dr w wr) ∧ Hid (mean_gcd_L1 F  gg x2 x3 = some o1))
  case atStart => exact ⟨v0, v1, rfl, rfl, HD, HL1⟩
  case round =>
    obtain ⟨x2, x3, rfl, rfl, HD, HL1⟩ := hrel
    rename World => W6
    cases gk with
    | zero => exact absurd ((mean_gcd_L1_0 ..).symm.trans HL1.out) (by intro h; cases h)
    | succ g1 =>
      replace HL1 := Lib.hid ((mean_gcd_L1_s ..).symm.trans HL1.out)
      rcases Bool.eq_false_or_eq_true (x3 != 0) with hc7 | hc7
      · replace HL1 := Lib.hid (ifT hc7 HL1.out)
        have HK8 := Lib.hid hc7
        try go_wp2_with fail
        try clear hc7
        obtain ⟨y9, hy10, hm⟩ := obind HL1.out
        replace HL1 := Lib.hid hm; clear hm
        obtain ⟨f11, hy10⟩ := md_some hy10; subst hy10
        go_quiet (fail)
        generalize hW : World.drewN W6 _ = W12
        have hd : Dr W6 W12 := ⟨_, hW.symm⟩
        clear hW
        try clear f11
        replace HD := Lib.hid (HD.out.trans hd); clear hd
        go_wp2_with fail
        go_roundg g1
        case measure => omega
        case rel => exact ⟨x3, ((x2 : Int).tmod x3), rfl, rfl, HD, HL1⟩
      · replace HL1 := Lib.hid (ifF (bF hc7) HL1.out)
        have HK8 := Lib.hid hc7
        obtain rfl := Option.some.inj HL1.out
        have hm := HM.out; try dsimp only at hm
        replace HM := Lib.hid hm; clear hm
        obtain rfl := Option.some.inj HM.out
        go_wp2_with fail
        try clear hc7
        go_ret
        exact ⟨rfl, HD.out⟩
def mean_walks_L2 (F : Nat) (nl : Int) : Nat → (Int) → (List Int) → Option (List Int)
  | 0, _, _ => none
  | g+1, j, v5 => if j < nl then (st v5 j 1073741824).bind fun y3 => mean_walks_L2 F nl g (wrap64 (j + 1)) (y3) else some (v5)
theorem mean_walks_L2_0 (F : Nat) (nl : Int) (v5 : List Int) (j : Int) : mean_walks_L2 F nl 0 j v5 = none := by rw [mean_walks_L2]
theorem mean_walks_L2_s (F g : Nat) (nl : Int) (v5 : List Int) (j : Int) : mean_walks_L2 F nl (g+1) j v5 = (if j < nl then (st v5 j 1073741824).bind fun y3 => mean_walks_L2 F nl g (wrap64 (j + 1)) (y3) else some (v5)) := by rw [mean_walks_L2]
def mean_walks_L3 (F : Nat) (v1 : List (Int × Int × Int)) (v3 : List (List Int)) (v4 : Int) : Nat → (Int) → (List Int) → Option (List Int)
  | 0, _, _ => none
  | g+1, j, v5 => if j < ((v1).length : Int) then (ix v1 j).bind fun y => (ix v3 v4).bind fun y5 => (ix y5 y.1).bind fun y6 => (if y6 < 1073741824 then (ix v5 y.2.1).bind fun y8 => (st v5 y.2.1 (gmin y8 (wrap64 (y6 + y.2.2)))).bind fun y7 => mean_walks_L3 F v1 v3 v4 g (wrap64 (j + 1)) (y7) else mean_walks_L3 F v1 v3 v4 g (wrap64 (j + 1)) (v5)) else some (v5)
theorem mean_walks_L3_0 (F : Nat) (v1 : List (Int × Int × Int)) (v3 : List (List Int)) (v4 : Int) (v5 : List Int) (j : Int) : mean_walks_L3 F v1 v3 v4 0 j v5 = none := by rw [mean_walks_L3]
theorem mean_walks_L3_s (F g : Nat) (v1 : List (Int × Int × Int)) (v3 : List (List Int)) (v4 : Int) (v5 : List Int) (j : Int) : mean_walks_L3 F v1 v3 v4 (g+1) j v5 = (if j < ((v1).length : Int) then (ix v1 j).bind fun y => (ix v3 v4).bind fun y5 => (ix y5 y.1).bind fun y6 => (if y6 < 1073741824 then (ix v5 y.2.1).bind fun y8 => (st v5 y.2.1 (gmin y8 (wrap64 (y6 + y.2.2)))).bind fun y7 => mean_walks_L3 F v1 v3 v4 g (wrap64 (j + 1)) (y7) else mean_walks_L3 F v1 v3 v4 g (wrap64 (j + 1)) (v5)) else some (v5)) := by rw [mean_walks_L3]
def mean_walks_L1 (F : Nat) (v0 : Int) (v1 : List (Int × Int × Int)) : Nat → (Int) → (List (List Int)) → Option (List (List Int))
  | 0, _, _ => none
  | g+1, j, v3 => if j < v0 then (mkI v0).bind fun y2 => (mean_walks_L2 F (((y2).length : Int)) F (0) (y2)).bind fun o4 => (mean_walks_L3 F (v1) (v3) (j) F (0) (o4)).bind fun o9 => (app v3 o9).bind fun y10 => mean_walks_L1 F v0 v1 g (wrap64 (j + 1)) (y10) else some (v3)
theorem mean_walks_L1_0 (F : Nat) (v0 : Int) (v1 : List (Int × Int × Int)) (v3 : List (List Int)) (j : Int) : mean_walks_L1 F v0 v1 0 j v3 = none := by rw [mean_walks_L1]
theorem mean_walks_L1_s (F g : Nat) (v0 : Int) (v1 : List (Int × Int × Int)) (v3 : List (List Int)) (j : Int) : mean_walks_L1 F v0 v1 (g+1) j v3 = (if j < v0 then (mkI v0).bind fun y2 => (mean_walks_L2 F (((y2).length : Int)) F (0) (y2)).bind fun o4 => (mean_walks_L3 F (v1) (v3) (j) F (0) (o4)).bind fun o9 => (app v3 o9).bind fun y10 => mean_walks_L1 F v0 v1 g (wrap64 (j + 1)) (y10) else some (v3)) := by rw [mean_walks_L1]
def mean_walks (F : Nat) (v0 : Int) (v1 : List (Int × Int × Int)) : Option (List (List Int)) := (mkI v0).bind fun y1 => (mean_walks_L1 F (v0) (v1) F (0) ([y1])).bind fun o11 => some (o11)
set_option maxRecDepth 100000 in
set_option maxHeartbeats 1000000 in
theorem mean_walks_ok {F : Nat} {v0 : Int} {v1 : List (Int × Int × Int)} {A1 : Option Addr} {r : List (List Int)} (w : World) (cap1 : Nat) (hr1 : ReadsC w w.heap.size A1 v1) (h : mean_walks F v0 v1 = some r) :
    Calls Tryd.prog 27 #[.int .i64 v0, .slice A1 v1.length cap1] w (PostR (fun v => v) r w.heap.size w) := by
  have HR1 := Lib.hid hr1; clear hr1
  have HD := Lib.hid (Below.refl w.heap.size w)
  have HOA := Lib.hid (HP.nil (W := w) (B := w.heap.size))
  unfold mean_walks at h
  have HM := Lib.hid h; clear h
  go_enter Tryd.func27, Tryd.ntmps27
  obtain ⟨y1, hy2, hm⟩ := obind HM.out
  replace HM := Lib.hid hm; clear hm
  obtain ⟨f3, hy2⟩ := mkI_some hy2
  obtain ⟨N7, hN8⟩ : ∃ N, Int.toNat v0 = N := ⟨_, rfl⟩
  rw [hN8] at hy2; subst hy2
  have hmk4 := run_makeI f3; simp only [hN8] at hmk4
  have hd : Below w.heap.size w (World.alloc w (.cells (Array.replicate N7 (Value.int .i64 0)) 3)) := (Below.refl _ _).alloc (Nat.le_refl _) _
  have ho := mkI_ok w f3; rw [hN8] at ho; clear hN8
  clear f3
  replace HOA := Lib.hid (HOA.out.call hd HD.out.size ho); clear ho
  replace HD := Lib.hid (HD.out.trans (hd.mono HD.out.size))
  clear hd
  have hd : Below w.heap.size (World.alloc w (.cells (Array.replicate N7 (Value.int .i64 0)) 3)) (World.alloc (World.alloc w (.cells (Array.replicate N7 (Value.int .i64 0)) 3)) (.cells #[(.slice (some ⟨w.heap.size, 0, none⟩) N7 N7)] 28)) := (Below.refl _ _).alloc HD.out.size _
  have hp := HP.litR (rs := [((.slice (some ⟨w.heap.size, 0, none⟩) N7 N7), (List.replicate N7 0))]) HOA.out HD.out.size (by unfold maxLen; simp)
  simp only [World.size_alloc] at hp
  replace HOA := Lib.hid (show HP (World.alloc (World.alloc w (.cells (Array.replicate N7 (Value.int .i64 0)) 3)) (.cells #[(.slice (some ⟨w.heap.size, 0, none⟩) N7 N7)] 28)) w.heap.size [.ro (.slice (some ⟨w.heap.size + 1, 0, none⟩) 1 1) ([(List.replicate N7 0)])] from hp); clear hp
  have hd_ : Below (World.alloc w (.cells (Array.replicate N7 (Value.int .i64 0)) 3)).heap.size (World.alloc w (.cells (Array.replicate N7 (Value.int .i64 0)) 3)) (World.alloc (World.alloc w (.cells (Array.replicate N7 (Value.int .i64 0)) 3)) (.cells #[(.slice (some ⟨w.heap.size, 0, none⟩) N7 N7)] 28)) := (Below.refl _ _).alloc (Nat.le_refl _) _
  replace HD := Lib.hid (HD.out.trans hd); clear hd hd_
  go_upto_region 2 with (fail)
  generalize hW : World.alloc (World.alloc w _) _ = W9 at *
  clear hW
  try clear hmk4
  go_wp2_with fail
  obtain ⟨o11, ho, hm⟩ := obind HM.out
  replace HM := Lib.hid hm; have HL1 := Lib.hid ho; clear hm ho
  go_loopg [16, 5] F (fun gg uj ux13 wr => ∃ (j15 : Int) (x12 : List (List Int)) (V14 : Value), uj = .int .i64 j15 ∧ V14 = ux13 ∧ Hid (Below w.heap.size w wr) ∧ Hid (HP wr w.heap.size [.ro V14 (x12)]) ∧ Hid (mean_walks_L1 F (v0) (v1) gg j15 x12 = some o11))
  case atStart => exact ⟨0, [(List.replicate N7 0)], (.slice (some ⟨w.heap.size + 1, 0, none⟩) 1 1), rfl, rfl, HD, HOA, HL1⟩
  case round =>
    obtain ⟨j15, x12, V14, rfl, rfl, HD, HOA, HL1⟩ := hrel
    rename World => W16
    cases gk with
    | zero => exact absurd ((mean_walks_L1_0 ..).symm.trans HL1.out) (by intro h; cases h)
    | succ g1 =>
      replace HL1 := Lib.hid ((mean_walks_L1_s ..).symm.trans HL1.out)
      by_cases hc17 : j15 < v0
      · replace HL1 := Lib.hid (ifT hc17 HL1.out)
        have HK18 := Lib.hid hc17
        obtain ⟨y19, hy20, hm⟩ := obind HL1.out
        replace HL1 := Lib.hid hm; clear hm
        obtain ⟨f21, hy20⟩ := mkI_some hy20
        obtain ⟨N25, hN26⟩ : ∃ N, Int.toNat v0 = N := ⟨_, rfl⟩
        rw [hN26] at hy20; subst hy20
        have hmk22 := run_makeI f21; simp only [hN26] at hmk22
        have hd : Below W16.heap.size W16 (W16.alloc (.cells (Array.replicate N25 (Value.int .i64 0)) 3)) := (Below.refl _ _).alloc (Nat.le_refl _) _
        have ho := mkI_ok W16 f21; rw [hN26] at ho; clear hN26
        go_upto_region 6 with (fail)
        generalize hW : World.alloc W16 _ = W23 at *
        clear hW hmk22 f21
        try clear hc17
        replace HOA := Lib.hid (HOA.out.call hd HD.out.size ho); clear ho
        replace HD := Lib.hid (HD.out.trans (hd.mono HD.out.size))
        clear hd
        go_wp2_with fail
        obtain ⟨o27, ho, hm⟩ := obind HL1.out
        try rw [List.length_replicate] at ho
        replace HL1 := Lib.hid hm; have HL2 := Lib.hid ho; clear hm ho
        go_loopg [23] F (fun gg uj wr => ∃ (j29 : Int) (x28 : List Int), uj = .int .i64 j29 ∧ Hid (Below w.heap.size w wr) ∧ Hid (HP wr w.heap.size [.fl (owI (.slice (some ⟨W16.heap.size, 0, none⟩) N25 N25) (x28)), .ro V14 (x12)]) ∧ Hid (mean_walks_L2 F (((N25 : Nat) : Int)) gg j29 x28 = some o27))
        case atStart => exact ⟨0, (List.replicate N25 0), rfl, HD, HOA, HL2⟩
        case round =>
          obtain ⟨j29, x28, rfl, HD, HOA, HL2⟩ := hrel
          rename World => W30
          cases gk with
          | zero => exact absurd ((mean_walks_L2_0 ..).symm.trans HL2.out) (by intro h; cases h)
          | succ g2 =>
            replace HL2 := Lib.hid ((mean_walks_L2_s ..).symm.trans HL2.out)
            by_cases hc31 : j29 < ((N25 : Nat) : Int)
            · replace HL2 := Lib.hid (ifT hc31 HL2.out)
              have HK32 := Lib.hid hc31
              obtain ⟨y35, hy34, hm⟩ := obind HL2.out
              replace HL2 := Lib.hid hm; clear hm
              obtain ⟨f36, hy34⟩ := st_some hy34; subst hy34
              obtain ⟨g42, ea, f39, ⟨ux41, f40⟩, hp, hb⟩ := HP.setI (x := 1073741824) (its1 := []) HOA.out f36
              cases ea
              obtain ⟨q0, q1⟩ := f36
              try rw [← HP.len_I HOA.out (List.Mem.head _)] at q1
              have HP_ := Lib.hid hp; have HB_ := Lib.hid hb; clear hp hb
              go_wp2_with fail
              have hp := HP_.out; have hb := HB_.out; clear HP_ HB_
              generalize hW : World.setCell W30 _ _ = W33 at *
              clear hW
              try clear f39 f40 q0 q1 hc31
              replace HOA := Lib.hid (show HP W33 w.heap.size [.fl (owI (.slice (some ⟨W16.heap.size, 0, none⟩) N25 N25) ((List.set x28 (Int.toNat j29) 1073741824))), .ro V14 (x12)] from hp); clear hp
              replace HD := Lib.hid (HD.out.trans hb); clear hb
              go_wp2_with fail
              go_roundg g2
              case measure => omega
              case rel => exact ⟨(wrap64 (j29 + 1)), (List.set x28 (Int.toNat j29) 1073741824), rfl, HD, HOA, HL2⟩
            · replace HL2 := Lib.hid (ifF hc31 HL2.out)
              have hc31d := decide_eq_false hc31
              have HK32 := Lib.hid hc31
              obtain rfl := Option.some.inj HL2.out
              have hm := HL1.out; try dsimp only at hm
              replace HL1 := Lib.hid hm; clear hm
              go_wp2_with fail
              try clear hc31 hc31d
              obtain ⟨o46, ho, hm⟩ := obind HL1.out
              replace HL1 := Lib.hid hm; have HL3 := Lib.hid ho; clear hm ho
              go_loopg [32] F (fun gg uj wr => ∃ (j48 : Int) (x47 : List Int), uj = .int .i64 j48 ∧ Hid (Below w.heap.size w wr) ∧ Hid (HP wr w.heap.size [.fl (owI (.slice (some ⟨W16.heap.size, 0, none⟩) N25 N25) (x47)), .ro V14 (x12)]) ∧ Hid (mean_walks_L3 F (v1) (x12) (j15) gg j48 x47 = some o46))
              case atStart => exact ⟨0, x28, rfl, HD, HOA, HL3⟩
              case round =>
                obtain ⟨j48, x47, rfl, HD, HOA, HL3⟩ := hrel
                rename World => W49
                cases gk with
                | zero => exact absurd ((mean_walks_L3_0 ..).symm.trans HL3.out) (by intro h; cases h)
                | succ g3 =>
                  replace HL3 := Lib.hid ((mean_walks_L3_s ..).symm.trans HL3.out)
                  by_cases hc50 : j48 < ((v1).length : Int)
                  · replace HL3 := Lib.hid (ifT hc50 HL3.out)
                    have HK51 := Lib.hid hc50
                    obtain ⟨y52, hy53, hm⟩ := obind HL3.out
                    replace HL3 := Lib.hid hm; clear hm
                    obtain ⟨b54, o55, ea56, _, f57, f58, f59, f60, f61⟩ := ReadsC.ix (rdC HD.out HR1.out) hy53
                    cases ea56
                    try simp only [Nat.zero_add, Nat.add_zero, Int.toNat_natCast, Int.toNat_zero, Int.toNat_one] at f59 f60 f61
                    have HY62 := Lib.hid hy53; clear hy53
                    go_upto_region 14 with (fail)
                    have hd : Below W49.heap.size W49 (W49.alloc (.cells #[Value.int .i64 y52.1, Value.int .i64 y52.2.1, Value.int .i64 y52.2.2] 36)) := (Below.refl _ _).alloc (Nat.le_refl _) _
                    have ho := boxRC W49 y52
                    generalize hW : World.alloc W49 _ = W63 at *
                    clear hW
                    try clear hc50 f57 f58 f59 f60 f61
                    replace HOA := Lib.hid (HOA.out.call hd HD.out.size ho); clear ho
                    replace HD := Lib.hid (HD.out.trans (hd.mono HD.out.size))
                    clear hd
                    try go_wp2_with fail
                    obtain ⟨A68, cap69, he, _⟩ := HP.open_R HOA.out (List.Mem.tail _ (List.Mem.tail _ (List.Mem.head _)))
                    subst he
                    obtain ⟨y66, hy67, hm⟩ := obind HL3.out
                    replace HL3 := Lib.hid hm; clear hm
                    obtain ⟨b70, o71, A77, cap78, ea72, _, f73, f74, f75, hrr⟩ := ReadsR.ix (HP.rd_R HOA.out (List.Mem.tail _ (List.Mem.tail _ (List.Mem.head _)))) hy67
                    cases ea72
                    try simp only [Nat.zero_add, Nat.add_zero, Int.toNat_natCast, Int.toNat_zero, Int.toNat_one] at f75
                    have HR79 := Lib.hid hrr; clear hrr
                    try rw [← HP.len_R HOA.out (List.Mem.tail _ (List.Mem.tail _ (List.Mem.head _)))] at f74
                    have HY80 := Lib.hid hy67; clear hy67
                    obtain ⟨f81, f82, f83⟩ := boxC (HP.rd_C HOA.out (List.Mem.head _))
                    obtain ⟨y84, hy85, hm⟩ := obind HL3.out
                    replace HL3 := Lib.hid hm; clear hm
                    obtain ⟨b86, o87, ea88, _, f89, f90, f91⟩ := ReadsI.ix HR79.out hy85
                    cases ea88
                    try simp only [Nat.zero_add, Nat.add_zero, Int.toNat_natCast, Int.toNat_zero, Int.toNat_one] at f91
                    have HY93 := Lib.hid hy85; clear hy85
                    go_quiet (fail)
                    generalize hW : World.drewN W63 _ = W94
                    have hd : Dr W63 W94 := ⟨_, hW.symm⟩
                    clear hW
                    try clear f73 f74 f75 f81 f82 f83 f89 f90 f91
                    replace HOA := Lib.hid (HOA.out.below (hd.below _))
                    replace HR79 := Lib.hid (rdI (hd.below _) HR79.out)
                    replace HD := Lib.hid (HD.out.trans ((hd.below _).mono HD.out.size))
                    clear hd
                    by_cases hc95 : y84 < 1073741824
                    · replace HL3 := Lib.hid (ifT hc95 HL3.out)
                      have HK96 := Lib.hid hc95
                      try go_wp2_with fail
                      try clear hc95
                      obtain ⟨f97, f98, f99⟩ := boxC (HP.rd_C HOA.out (List.Mem.head _))
                      obtain ⟨y100, hy101, hm⟩ := obind HL3.out
                      replace HL3 := Lib.hid hm; clear hm
                      obtain ⟨b102, o103, ea104, _, f105, f106, f107⟩ := ReadsI.ix (HP.rd_I HOA.out (List.Mem.tail _ (List.Mem.head _))) hy101
                      cases ea104
                      try simp only [Nat.zero_add, Nat.add_zero, Int.toNat_natCast, Int.toNat_zero, Int.toNat_one] at f107
                      try rw [← HP.len_I HOA.out (List.Mem.tail _ (List.Mem.head _))] at f106
                      have HY109 := Lib.hid hy101; clear hy101
                      by_cases hc110 : (wrap64 (y84 + y52.2.2)) < y100
                      · replace HL3 := Lib.hid (by have q := HL3.out; simp only [show gmin y100 (wrap64 (y84 + y52.2.2)) = (wrap64 (y84 + y52.2.2)) from if_pos hc110] at q; exact q)
                        have hc110x : (IntKind.i64.wrap (y84 + y52.2.2)) < y100 := by first | exact hc110 | (simp only [i64w]; exact hc110)
                        have hc110y : ¬ (y100 ≤ (IntKind.i64.wrap (y84 + y52.2.2))) := by first | exact Int.not_le.2 hc110 | (simp only [i64w]; exact Int.not_le.2 hc110)
                        obtain ⟨y113, hy112, hm⟩ := obind HL3.out
                        replace HL3 := Lib.hid hm; clear hm
                        obtain ⟨f114, hy112⟩ := st_some hy112; subst hy112
                        obtain ⟨g120, ea, f117, ⟨ux119, f118⟩, hp, hb⟩ := HP.setI (x := (wrap64 (y84 + y52.2.2))) (its1 := [_]) HOA.out f114
                        cases ea
                        obtain ⟨q0, q1⟩ := f114
                        try rw [← HP.len_I HOA.out (List.Mem.tail _ (List.Mem.head _))] at q1
                        clear f118
                        have HP_ := Lib.hid hp; have HB_ := Lib.hid hb; clear hp hb
                        go_still_tail 14, (by kernel_rfl)
                        change wpList _ _ _ _ _ (World.drew W94)
                        go_wp2_with fail
                        have hp := HP_.out.dr (Dr.one _); have hb := HB_.out.trans ((Dr.one _).below _); clear HP_ HB_
                        generalize hW : World.drew (World.setCell W94 _ _) = W111 at *
                        clear hW
                        try clear f117 q0 q1 f97 f98 f99 f105 f106 f107 hc110 hc110x hc110y
                        replace HOA := Lib.hid (show HP W111 w.heap.size [.fl (owC (.slice (some ⟨W49.heap.size, 0, none⟩) 1 1) ([y52])), .fl (owI (.slice (some ⟨W16.heap.size, 0, none⟩) N25 N25) ((List.set x47 (Int.toNat y52.2.1) (wrap64 (y84 + y52.2.2))))), .ro (.slice (some ⟨b70, o71, none⟩) (x12).length cap69) (x12)] from hp); clear hp
                        replace HD := Lib.hid (HD.out.trans hb); clear hb
                        go_wp2_with fail
                        replace HOA := Lib.hid (HOA.out.sub (.cons _ (.cons₂ _ (.cons₂ _ .slnil))))
                        go_roundg g3
                        case measure => omega
                        case rel => exact ⟨(wrap64 (j48 + 1)), (List.set x47 (Int.toNat y52.2.1) (wrap64 (y84 + y52.2.2))), rfl, HD, HOA, HL3⟩
                      · replace HL3 := Lib.hid (by have q := HL3.out; simp only [show gmin y100 (wrap64 (y84 + y52.2.2)) = y100 from if_neg hc110] at q; exact q)
                        have hc110x : ¬ ((IntKind.i64.wrap (y84 + y52.2.2)) < y100) := by first | exact hc110 | (simp only [i64w]; exact hc110)
                        have hc110y : y100 ≤ (IntKind.i64.wrap (y84 + y52.2.2)) := by first | exact Int.not_lt.1 hc110 | (simp only [i64w]; exact Int.not_lt.1 hc110)
                        obtain ⟨y126, hy125, hm⟩ := obind HL3.out
                        replace HL3 := Lib.hid hm; clear hm
                        obtain ⟨f127, hy125⟩ := st_some hy125; subst hy125
                        obtain ⟨g133, ea, f130, ⟨ux132, f131⟩, hp, hb⟩ := HP.setI (x := y100) (its1 := [_]) HOA.out f127
                        cases ea
                        obtain ⟨q0, q1⟩ := f127
                        try rw [← HP.len_I HOA.out (List.Mem.tail _ (List.Mem.head _))] at q1
                        clear f131
                        have HP_ := Lib.hid hp; have HB_ := Lib.hid hb; clear hp hb
                        go_still_tail 14, (by kernel_rfl)
                        change wpList _ _ _ _ _ (World.drew W94)
                        go_wp2_with fail
                        have hp := HP_.out.dr (Dr.one _); have hb := HB_.out.trans ((Dr.one _).below _); clear HP_ HB_
                        generalize hW : World.drew (World.setCell W94 _ _) = W124 at *
                        clear hW
                        try clear f130 q0 q1 f97 f98 f99 f105 f106 f107 hc110 hc110x hc110y
                        replace HOA := Lib.hid (show HP W124 w.heap.size [.fl (owC (.slice (some ⟨W49.heap.size, 0, none⟩) 1 1) ([y52])), .fl (owI (.slice (some ⟨W16.heap.size, 0, none⟩) N25 N25) ((List.set x47 (Int.toNat y52.2.1) y100))), .ro (.slice (some ⟨b70, o71, none⟩) (x12).length cap69) (x12)] from hp); clear hp
                        replace HD := Lib.hid (HD.out.trans hb); clear hb
                        go_wp2_with fail
                        replace HOA := Lib.hid (HOA.out.sub (.cons _ (.cons₂ _ (.cons₂ _ .slnil))))
                        go_roundg g3
                        case measure => omega
                        case rel => exact ⟨(wrap64 (j48 + 1)), (List.set x47 (Int.toNat y52.2.1) y100), rfl, HD, HOA, HL3⟩
                    · replace HL3 := Lib.hid (ifF hc95 HL3.out)
                      have hc95d := decide_eq_false hc95
                      have HK96 := Lib.hid hc95
                      go_wp2_with fail
                      try clear hc95 hc95d
                      replace HOA := Lib.hid (HOA.out.sub (.cons _ (.cons₂ _ (.cons₂ _ .slnil))))
                      go_roundg g3
                      case measure => omega
                      case rel => exact ⟨(wrap64 (j48 + 1)), x47, rfl, HD, HOA, HL3⟩
                  · replace HL3 := Lib.hid (ifF hc50 HL3.out)
                    have hc50d := decide_eq_false hc50
                    have HK51 := Lib.hid hc50
                    obtain rfl := Option.some.inj HL3.out
                    have hm := HL1.out; try dsimp only at hm
                    replace HL1 := Lib.hid hm; clear hm
                    obtain ⟨y137, hy138, hm⟩ := obind HL1.out
                    replace HL1 := Lib.hid hm; clear hm
                    obtain ⟨f139, hy138⟩ := app_some hy138; subst hy138
                    have HF142 := Lib.hid f139; clear f139
                    have hfr := Lib.hid (HP.front (its1 := []) HOA.out)
                    go_wp2_with (at_builtin; refine hp_appR _ (.tmp 61) (.tmp 63) 23 Tryd.underlying23 rfl rfl (its1 := []) hfr.out rfl rfl HF142.out HD.out.size ?_; intro V140 W141 hoa hd)
                    clear hfr
                    try clear hc50 hc50d
                    replace HOA := Lib.hid (show HP W141 w.heap.size [.ro V140 ((x12 ++ [x47]))] from hoa); clear hoa
                    replace HD := Lib.hid (HD.out.trans hd); clear hd
                    go_wp2_with fail
                    go_roundg g1
                    case measure => omega
                    case rel => exact ⟨(wrap64 (j15 + 1)), (x12 ++ [x47]), V140, rfl, rfl, HD, HOA, HL1⟩
      · replace HL1 := Lib.hid (ifF hc17 HL1.out)
        have hc17d := decide_eq_false hc17
        have HK18 := Lib.hid hc17
        obtain rfl := Option.some.inj HL1.out
        have hm := HM.out; try dsimp only at hm
        replace HM := Lib.hid hm; clear hm
        obtain rfl := Option.some.inj HM.out
        go_wp2_with fail
        try clear hc17 hc17d
        go_ret
        exact ⟨_, rfl, HOA.out, HD.out⟩
end Go.Proofs.YtoiidngnlhhanaaDoor
