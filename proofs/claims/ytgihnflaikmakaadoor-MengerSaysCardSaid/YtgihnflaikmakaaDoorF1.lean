import Derived.Test.YtgihnflaikmakaaDoorTl
set_option linter.all false
set_option maxRecDepth 100000
namespace Go.Proofs.YtgihnflaikmakaaDoor
open Go.RowKit
def menger_find_L1 (F : Nat) (nl : Int) (v0 : Int) : Nat → (Int) → (List (List Int)) → Option (List (List Int))
  | 0, _, _ => none
  | g+1, j, v6 => if j < nl then (mkI v0).bind fun y3 => (st v6 j y3).bind fun y2 => menger_find_L1 F nl v0 g (wrap64 (j + 1)) (y2) else some (v6)
theorem menger_find_L1_0 (F : Nat) (nl : Int) (v0 : Int) (v6 : List (List Int)) (j : Int) : menger_find_L1 F nl v0 0 j v6 = none := by rw [menger_find_L1]
theorem menger_find_L1_s (F g : Nat) (nl : Int) (v0 : Int) (v6 : List (List Int)) (j : Int) : menger_find_L1 F nl v0 (g+1) j v6 = (if j < nl then (mkI v0).bind fun y3 => (st v6 j y3).bind fun y2 => menger_find_L1 F nl v0 g (wrap64 (j + 1)) (y2) else some (v6)) := by rw [menger_find_L1]
def menger_find_L2 (F : Nat) (v1 : List (Int × Int)) : Nat → (Int) → (List (List Int)) → Option (List (List Int))
  | 0, _, _ => none
  | g+1, j, v6 => if j < ((v1).length : Int) then (ix v1 j).bind fun y => (ix v6 y.1).bind fun y8 => (ix y8 y.2).bind fun y9 => (ix v6 y.1).bind fun y5 => (st y5 y.2 (wrap64 (y9 + 1))).bind fun y6 => (st v6 y.1 y6).bind fun y7 => (ix y7 y.2).bind fun y13 => (ix y13 y.1).bind fun y14 => (ix y7 y.2).bind fun y10 => (st y10 y.1 (wrap64 (y14 + 1))).bind fun y11 => (st y7 y.2 y11).bind fun y12 => menger_find_L2 F v1 g (wrap64 (j + 1)) (y12) else some (v6)
theorem menger_find_L2_0 (F : Nat) (v1 : List (Int × Int)) (v6 : List (List Int)) (j : Int) : menger_find_L2 F v1 0 j v6 = none := by rw [menger_find_L2]
theorem menger_find_L2_s (F g : Nat) (v1 : List (Int × Int)) (v6 : List (List Int)) (j : Int) : menger_find_L2 F v1 (g+1) j v6 = (if j < ((v1).length : Int) then (ix v1 j).bind fun y => (ix v6 y.1).bind fun y8 => (ix y8 y.2).bind fun y9 => (ix v6 y.1).bind fun y5 => (st y5 y.2 (wrap64 (y9 + 1))).bind fun y6 => (st v6 y.1 y6).bind fun y7 => (ix y7 y.2).bind fun y13 => (ix y13 y.1).bind fun y14 => (ix y7 y.2).bind fun y10 => (st y10 y.1 (wrap64 (y14 + 1))).bind fun y11 => (st y7 y.2 y11).bind fun y12 => menger_find_L2 F v1 g (wrap64 (j + 1)) (y12) else some (v6)) := by rw [menger_find_L2]
def menger_find_L4 (F : Nat) (nl : Int) : Nat → (Int) → (List Int) → Option (List Int)
  | 0, _, _ => none
  | g+1, j, v11 => if j < nl then (st v11 j (-1)).bind fun y17 => menger_find_L4 F nl g (wrap64 (j + 1)) (y17) else some (v11)
theorem menger_find_L4_0 (F : Nat) (nl : Int) (v11 : List Int) (j : Int) : menger_find_L4 F nl 0 j v11 = none := by rw [menger_find_L4]
theorem menger_find_L4_s (F g : Nat) (nl : Int) (v11 : List Int) (j : Int) : menger_find_L4 F nl (g+1) j v11 = (if j < nl then (st v11 j (-1)).bind fun y17 => menger_find_L4 F nl g (wrap64 (j + 1)) (y17) else some (v11)) := by rw [menger_find_L4]
def menger_find_L6 (F : Nat) (v0 : Int) (v6 : List (List Int)) : Nat → (Int) → (List Int) → (List Int) → Option (List Int × List Int)
  | 0, _, _, _ => none
  | g+1, j, v11, v13 => if j < v0 then (((ix v11 j).bind fun y21 => if y21 < 0 then (ix v13 0).bind fun y22 => (ix v6 y22).bind fun y23 => (ix y23 j).bind fun y24 => if 0 < y24 then some true else some false else some false).bind fun b20 => if b20 = true then (ix v13 0).bind fun y26 => (st v11 j y26).bind fun y25 => (app v13 j).bind fun y27 => menger_find_L6 F v0 v6 g (wrap64 (j + 1)) (y25) (y27) else menger_find_L6 F v0 v6 g (wrap64 (j + 1)) (v11) (v13)) else some (v11, v13)
theorem menger_find_L6_0 (F : Nat) (v0 : Int) (v6 : List (List Int)) (v11 : List Int) (v13 : List Int) (j : Int) : menger_find_L6 F v0 v6 0 j v11 v13 = none := by rw [menger_find_L6]
theorem menger_find_L6_s (F g : Nat) (v0 : Int) (v6 : List (List Int)) (v11 : List Int) (v13 : List Int) (j : Int) : menger_find_L6 F v0 v6 (g+1) j v11 v13 = (if j < v0 then (((ix v11 j).bind fun y21 => if y21 < 0 then (ix v13 0).bind fun y22 => (ix v6 y22).bind fun y23 => (ix y23 j).bind fun y24 => if 0 < y24 then some true else some false else some false).bind fun b20 => if b20 = true then (ix v13 0).bind fun y26 => (st v11 j y26).bind fun y25 => (app v13 j).bind fun y27 => menger_find_L6 F v0 v6 g (wrap64 (j + 1)) (y25) (y27) else menger_find_L6 F v0 v6 g (wrap64 (j + 1)) (v11) (v13)) else some (v11, v13)) := by rw [menger_find_L6]
def menger_find_L5 (F : Nat) (v0 : Int) (v6 : List (List Int)) : Nat → (List Int) → (List Int) → Option (List Int × List Int)
  | 0, _, _ => none
  | g+1, v11, v13 => if 0 < ((v13).length : Int) then (menger_find_L6 F (v0) (v6) F (0) (v11) (v13)).bind fun o28 => (dr o28.2 1).bind fun y29 => menger_find_L5 F v0 v6 g (o28.1) (y29) else some (v11, v13)
theorem menger_find_L5_0 (F : Nat) (v0 : Int) (v6 : List (List Int)) (v11 : List Int) (v13 : List Int) : menger_find_L5 F v0 v6 0 v11 v13 = none := by rw [menger_find_L5]
theorem menger_find_L5_s (F g : Nat) (v0 : Int) (v6 : List (List Int)) (v11 : List Int) (v13 : List Int) : menger_find_L5 F v0 v6 (g+1) v11 v13 = (if 0 < ((v13).length : Int) then (menger_find_L6 F (v0) (v6) F (0) (v11) (v13)).bind fun o28 => (dr o28.2 1).bind fun y29 => menger_find_L5 F v0 v6 g (o28.1) (y29) else some (v11, v13)) := by rw [menger_find_L5]
def menger_find_L7 (F : Nat) (v11 : List Int) : Nat → (Int) → (Nat) → Option (Nat)
  | 0, _, _ => none
  | g+1, j, v15 => if j < ((v11).length : Int) then (ix v11 j).bind fun y => (if 0 ≤ y then (sWith (v15) (j)).bind fun y32 => menger_find_L7 F v11 g (wrap64 (j + 1)) (y32) else menger_find_L7 F v11 g (wrap64 (j + 1)) (v15)) else some (v15)
theorem menger_find_L7_0 (F : Nat) (v11 : List Int) (v15 : Nat) (j : Int) : menger_find_L7 F v11 0 j v15 = none := by rw [menger_find_L7]
theorem menger_find_L7_s (F g : Nat) (v11 : List Int) (v15 : Nat) (j : Int) : menger_find_L7 F v11 (g+1) j v15 = (if j < ((v11).length : Int) then (ix v11 j).bind fun y => (if 0 ≤ y then (sWith (v15) (j)).bind fun y32 => menger_find_L7 F v11 g (wrap64 (j + 1)) (y32) else menger_find_L7 F v11 g (wrap64 (j + 1)) (v15)) else some (v15)) := by rw [menger_find_L7]
def menger_find_L8 (F : Nat) (v2 : Int) (v11 : List Int) : Nat → (List (List Int)) → (Int) → Option (List (List Int) × Int)
  | 0, _, _ => none
  | g+1, v6, v18 => if (v18 != v2) = true then (ix v11 v18).bind fun y37 => (ix v11 v18).bind fun y38 => (ix v6 y38).bind fun y39 => (ix y39 v18).bind fun y40 => (ix v6 y37).bind fun y34 => (st y34 v18 (wrap64 (y40 - 1))).bind fun y35 => (st v6 y37 y35).bind fun y36 => (ix v11 v18).bind fun y44 => (ix y36 v18).bind fun y45 => (ix v11 v18).bind fun y46 => (ix y45 y46).bind fun y47 => (ix y36 v18).bind fun y41 => (st y41 y44 (wrap64 (y47 + 1))).bind fun y42 => (st y36 v18 y42).bind fun y43 => (ix v11 v18).bind fun y48 => menger_find_L8 F v2 v11 g (y43) (y48) else some (v6, v18)
theorem menger_find_L8_0 (F : Nat) (v2 : Int) (v11 : List Int) (v6 : List (List Int)) (v18 : Int) : menger_find_L8 F v2 v11 0 v6 v18 = none := by rw [menger_find_L8]
theorem menger_find_L8_s (F g : Nat) (v2 : Int) (v11 : List Int) (v6 : List (List Int)) (v18 : Int) : menger_find_L8 F v2 v11 (g+1) v6 v18 = (if (v18 != v2) = true then (ix v11 v18).bind fun y37 => (ix v11 v18).bind fun y38 => (ix v6 y38).bind fun y39 => (ix y39 v18).bind fun y40 => (ix v6 y37).bind fun y34 => (st y34 v18 (wrap64 (y40 - 1))).bind fun y35 => (st v6 y37 y35).bind fun y36 => (ix v11 v18).bind fun y44 => (ix y36 v18).bind fun y45 => (ix v11 v18).bind fun y46 => (ix y45 y46).bind fun y47 => (ix y36 v18).bind fun y41 => (st y41 y44 (wrap64 (y47 + 1))).bind fun y42 => (st y36 v18 y42).bind fun y43 => (ix v11 v18).bind fun y48 => menger_find_L8 F v2 v11 g (y43) (y48) else some (v6, v18)) := by rw [menger_find_L8]
def menger_find_L3 (F : Nat) (v0 : Int) (v2 : Int) (v3 : Int) : Nat → (List (List Int)) → (Int) → Option ((List (List Int) × Int) ⊕ (Int × Nat))
  | 0, _, _ => none
  | g+1, v6, v10 => (mkI v0).bind fun y16 => (menger_find_L4 F (((y16).length : Int)) F (0) (y16)).bind fun o18 => (st o18 v2 v2).bind fun y19 => (menger_find_L5 F (v0) (v6) F (y19) ([v2])).bind fun o30 => ((ix o30.1 v3).bind fun y31 => if y31 < 0 then (menger_find_L7 F (o30.1) F (0) (0)).bind fun o33 => some (.inr ((v10, o33))) else (menger_find_L8 F (v2) (o30.1) F (v6) (v3)).bind fun o49 => menger_find_L3 F v0 v2 v3 g (o49.1) ((wrap64 (v10 + 1))))
theorem menger_find_L3_0 (F : Nat) (v0 : Int) (v2 : Int) (v3 : Int) (v6 : List (List Int)) (v10 : Int) : menger_find_L3 F v0 v2 v3 0 v6 v10 = none := by rw [menger_find_L3]
theorem menger_find_L3_s (F g : Nat) (v0 : Int) (v2 : Int) (v3 : Int) (v6 : List (List Int)) (v10 : Int) : menger_find_L3 F v0 v2 v3 (g+1) v6 v10 = ((mkI v0).bind fun y16 => (menger_find_L4 F (((y16).length : Int)) F (0) (y16)).bind fun o18 => (st o18 v2 v2).bind fun y19 => (menger_find_L5 F (v0) (v6) F (y19) ([v2])).bind fun o30 => ((ix o30.1 v3).bind fun y31 => if y31 < 0 then (menger_find_L7 F (o30.1) F (0) (0)).bind fun o33 => some (.inr ((v10, o33))) else (menger_find_L8 F (v2) (o30.1) F (v6) (v3)).bind fun o49 => menger_find_L3 F v0 v2 v3 g (o49.1) ((wrap64 (v10 + 1))))) := by rw [menger_find_L3]
def menger_find (F : Nat) (v0 : Int) (v1 : List (Int × Int)) (v2 : Int) (v3 : Int) : Option (Int × Nat) := (mkR v0).bind fun y1 => (menger_find_L1 F (((y1).length : Int)) (v0) F (0) (y1)).bind fun o4 => (menger_find_L2 F (v1) F (0) (o4)).bind fun o15 => (menger_find_L3 F (v0) (v2) (v3) F (o15) (0)).bind fun o50 => match o50 with | .inr r => some (r) | .inl _ => none
set_option maxRecDepth 100000 in
set_option maxHeartbeats 1000000 in
theorem menger_find_ok {F : Nat} {v0 : Int} {v1 : List (Int × Int)} {A1 : Option Addr} {v2 : Int} {v3 : Int} {r : Int × Nat} (w : World) (cap1 : Nat) (hr1 : ReadsL w w.heap.size A1 v1) (h : menger_find F v0 v1 v2 v3 = some r) :
    Calls Tryd.prog 17 #[.int .i64 v0, .slice A1 v1.length cap1, .int .i64 v2, .int .i64 v3] w fun e w' => e = .returned (.tuple #[(.int .i64 r.1), (.int .u64 ((r.2 : Nat) : Int))]) ∧ Below w.heap.size w w' := by
  have HR1 := Lib.hid hr1; clear hr1
  have HD := Lib.hid (Below.refl w.heap.size w)
  have HOA := Lib.hid (HP.nil (W := w) (B := w.heap.size))
  unfold menger_find at h
  have HM := Lib.hid h; clear h
  go_enter Tryd.func17, Tryd.ntmps17
  obtain ⟨y1, hy2, hm⟩ := obind HM.out
  replace HM := Lib.hid hm; clear hm
  obtain ⟨f3, hy2⟩ := mkR_some hy2
  obtain ⟨N7, hN8⟩ : ∃ N, Int.toNat v0 = N := ⟨_, rfl⟩
  rw [hN8] at hy2; subst hy2
  have hmk4 := run_makeR f3; simp only [hN8] at hmk4
  have hd : Below w.heap.size w (w.alloc (.cells (Array.replicate N7 (Value.slice none 0 0)) 25)) := (Below.refl _ _).alloc (Nat.le_refl _) _
  have ho := mkR_ok w f3; rw [hN8] at ho; clear hN8
  go_upto_region 2 with (fail)
  generalize hW : World.alloc w _ = W5 at *
  clear hW hmk4 f3
  replace HOA := Lib.hid (HOA.out.callR hd HD.out.size ho); clear ho
  replace HD := Lib.hid (HD.out.trans (hd.mono HD.out.size))
  clear hd
  go_wp2_with fail
  obtain ⟨o9, ho, hm⟩ := obind HM.out
  try rw [List.length_replicate] at ho
  replace HM := Lib.hid hm; have HL1 := Lib.hid ho; clear hm ho
  go_loopg [27] F (fun gg uj wr => ∃ (j11 : Int) (x10 : List (List Int)), uj = .int .i64 j11 ∧ Hid (Below w.heap.size w wr) ∧ Hid (HP wr w.heap.size [.ro (.slice (some ⟨w.heap.size, 0, none⟩) N7 N7) (x10)]) ∧ Hid (menger_find_L1 F (((N7 : Nat) : Int)) (v0) gg j11 x10 = some o9))
  case atStart => exact ⟨0, (List.replicate N7 ([] : List Int)), rfl, HD, HOA, HL1⟩
  case round =>
    obtain ⟨j11, x10, rfl, HD, HOA, HL1⟩ := hrel
    rename World => W12
    cases gk with
    | zero => exact absurd ((menger_find_L1_0 ..).symm.trans HL1.out) (by intro h; cases h)
    | succ g1 =>
      replace HL1 := Lib.hid ((menger_find_L1_s ..).symm.trans HL1.out)
      by_cases hc13 : j11 < ((N7 : Nat) : Int)
      · replace HL1 := Lib.hid (ifT hc13 HL1.out)
        obtain ⟨y15, hy16, hm⟩ := obind HL1.out
        replace HL1 := Lib.hid hm; clear hm
        obtain ⟨f17, hy16⟩ := mkI_some hy16
        obtain ⟨N26, hN27⟩ : ∃ N, Int.toNat v0 = N := ⟨_, rfl⟩
        rw [hN27] at hy16; subst hy16
        obtain ⟨y18, hy19, hm⟩ := obind HL1.out
        replace HL1 := Lib.hid hm; clear hm
        obtain ⟨f20, hy19⟩ := st_some hy19; subst hy19
        have hmk25 := run_makeI f17; simp only [hN27] at hmk25
        have hmo := mkI_ok W12 f17; rw [hN27] at hmo; clear hN27
        have hd : Below W12.heap.size W12 (W12.alloc (.cells (Array.replicate N26 (Value.int .i64 0)) 3)) := (Below.refl _ _).alloc (Nat.le_refl _) _
        obtain ⟨g21, ea, f22, ⟨u23, f24⟩, hp, hb⟩ := HP.setRow (its1 := []) (HOA.out.call hd HD.out.size hmo) f20
        clear hmo
        cases ea
        obtain ⟨q0, q1⟩ := f20
        try rw [← HP.len_R HOA.out (List.Mem.head _)] at q1
        clear f17
        have HP_ := Lib.hid hp; have HB_ := Lib.hid ((hd.mono HD.out.size).trans hb); clear hp hb hd
        go_wp2_with fail
        have hp := HP_.out; have hb := HB_.out; clear HP_ HB_
        generalize hW : World.setCell _ _ _ = W14 at *
        clear hW
        try clear f22 f24 q0 q1 hmk25 hc13
        replace HOA := Lib.hid (show HP W14 w.heap.size [.ro (.slice (some ⟨w.heap.size, 0, none⟩) N7 N7) ((List.set x10 (Int.toNat j11) (List.replicate N26 0)))] from hp); clear hp
        replace HD := Lib.hid (HD.out.trans hb); clear hb
        go_wp2_with fail
        go_roundg g1
        case measure => omega
        case rel => exact ⟨(wrap64 (j11 + 1)), (List.set x10 (Int.toNat j11) (List.replicate N26 0)), rfl, HD, HOA, HL1⟩
      · replace HL1 := Lib.hid (ifF hc13 HL1.out)
        obtain rfl := Option.some.inj HL1.out
        have hm := HM.out; try dsimp only at hm
        replace HM := Lib.hid hm; clear hm
        go_wp2_with fail
        try clear hc13
        obtain ⟨o28, ho, hm⟩ := obind HM.out
        replace HM := Lib.hid hm; have HL2 := Lib.hid ho; clear hm ho
        go_loopg [38] F (fun gg uj wr => ∃ (j30 : Int) (x29 : List (List Int)), uj = .int .i64 j30 ∧ Hid (Below w.heap.size w wr) ∧ Hid (HP wr w.heap.size [.ro (.slice (some ⟨w.heap.size, 0, none⟩) N7 N7) (x29)]) ∧ Hid (menger_find_L2 F (v1) gg j30 x29 = some o28))
        case atStart => exact ⟨0, x10, rfl, HD, HOA, HL2⟩
        case round =>
          obtain ⟨j30, x29, rfl, HD, HOA, HL2⟩ := hrel
          rename World => W31
          cases gk with
          | zero => exact absurd ((menger_find_L2_0 ..).symm.trans HL2.out) (by intro h; cases h)
          | succ g2 =>
            replace HL2 := Lib.hid ((menger_find_L2_s ..).symm.trans HL2.out)
            by_cases hc32 : j30 < ((v1).length : Int)
            · replace HL2 := Lib.hid (ifT hc32 HL2.out)
              obtain ⟨y33, hy34, hm⟩ := obind HL2.out
              replace HL2 := Lib.hid hm; clear hm
              obtain ⟨b35, o36, ea37, _, f38, f39, f40, f41⟩ := ReadsL.ix (rdL HD.out HR1.out) hy34
              cases ea37
              try simp only [Nat.zero_add, Nat.add_zero, Int.toNat_natCast, Int.toNat_zero, Int.toNat_one] at f40 f41
              have HY42 := Lib.hid hy34; clear hy34
              go_upto_region 10 with (fail)
              have hd : Below W31.heap.size W31 (W31.alloc (.cells #[Value.int .i64 y33.1, Value.int .i64 y33.2] 38)) := (Below.refl _ _).alloc (Nat.le_refl _) _
              have ho := boxRL W31 y33
              generalize hW : World.alloc W31 _ = W43 at *
              clear hW
              try clear hc32 f38 f39 f40 f41
              replace HOA := Lib.hid (HOA.out.call hd HD.out.size ho); clear ho
              replace HD := Lib.hid (HD.out.trans (hd.mono HD.out.size))
              clear hd
              try go_wp2_with fail
              obtain ⟨f46, f47⟩ := boxL (HP.rd_L HOA.out (List.Mem.head _))
              obtain ⟨y48, hy49, hm⟩ := obind HL2.out
              replace HL2 := Lib.hid hm; clear hm
              obtain ⟨b50, o51, A57, cap58, ea52, _, f53, f54, f55, hrr⟩ := ReadsR.ix (HP.rd_R HOA.out (List.Mem.tail _ (List.Mem.head _))) hy49
              cases ea52
              try simp only [Nat.zero_add, Nat.add_zero, Int.toNat_natCast, Int.toNat_zero, Int.toNat_one] at f55
              have HR59 := Lib.hid hrr; clear hrr
              try rw [← HP.len_R HOA.out (List.Mem.tail _ (List.Mem.head _))] at f54
              have HY60 := Lib.hid hy49; clear hy49
              obtain ⟨y61, hy62, hm⟩ := obind HL2.out
              replace HL2 := Lib.hid hm; clear hm
              obtain ⟨b63, o64, ea65, _, f66, f67, f68⟩ := ReadsI.ix HR59.out hy62
              cases ea65
              try simp only [Nat.zero_add, Nat.add_zero, Int.toNat_natCast, Int.toNat_zero, Int.toNat_one] at f68
              have HY70 := Lib.hid hy62; clear hy62
              obtain ⟨y84, hy85, hm⟩ := obind HL2.out
              replace HL2 := Lib.hid hm; clear hm
              obtain rfl := Option.some.inj (HY60.out.symm.trans hy85)
              obtain ⟨y73, hy72, hm⟩ := obind HL2.out
              replace HL2 := Lib.hid hm; clear hm
              obtain ⟨f74, hy72⟩ := st_some hy72; subst hy72
              obtain ⟨y86, hy87, hm⟩ := obind HL2.out
              replace HL2 := Lib.hid hm; clear hm
              obtain ⟨f75, hy87⟩ := st_some hy87; subst hy87
              obtain ⟨b81, o82, g80, cap83, ea, h0, h1, f76, f77, ⟨u79, f78⟩, hp, hb⟩ := HP.setR (x := (wrap64 (y61 + 1))) (its1 := [_]) HOA.out hy85 f74
              cases ea
              try simp only [Nat.zero_add, Nat.add_zero, Int.toNat_natCast, Int.toNat_zero, Int.toNat_one] at f76
              clear f75
              obtain ⟨q0, q1⟩ := f74
              try rw [← HP.len_R HOA.out (List.Mem.tail _ (List.Mem.head _))] at h1
              have hu := Option.some.inj (f55.symm.trans f76)
              injection hu with hu1 _ hu3; injection hu1 with hu1; injection hu1 with hu1 hu2 _; subst hu1 hu2 hu3
              try simp only [Nat.zero_add] at f46
              try simp only [Nat.zero_add] at f47
              try simp only [Nat.zero_add] at f53
              try simp only [Nat.zero_add] at f54
              try simp only [Nat.zero_add] at f55
              try simp only [Nat.zero_add] at f66
              try simp only [Nat.zero_add] at f67
              try simp only [Nat.zero_add] at f68
              clear f78
              clear hy85
              have HP_ := Lib.hid hp; have HB_ := Lib.hid hb; clear hp hb
              go_still_tail 11, (by kernel_rfl)
              change wpList _ _ _ _ _ (World.drew W43)
              go_upto_region 11 with (fail)
              have hp := HP_.out.dr (Dr.one _); have hb := HB_.out.trans ((Dr.one _).below _); clear HP_ HB_
              generalize hW : World.drew (World.setCell W43 _ _) = W71 at *
              clear hW
              try clear h0 h1 f76 f77 q0 q1 f46 f47 f53 f54 f55 f66 f67 f68
              replace HOA := Lib.hid (show HP W71 w.heap.size [.fl (owL (.slice (some ⟨W31.heap.size, 0, none⟩) 1 1) ([y33])), .ro (.slice (some ⟨w.heap.size, 0, none⟩) N7 N7) ((List.set x29 (Int.toNat y33.1) (List.set y48 (Int.toNat y33.2) (wrap64 (y61 + 1)))))] from hp); clear hp
              replace HD := Lib.hid (HD.out.trans hb); clear hb
              try go_wp2_with fail
              obtain ⟨f88, f89⟩ := boxL (HP.rd_L HOA.out (List.Mem.head _))
              obtain ⟨y90, hy91, hm⟩ := obind HL2.out
              replace HL2 := Lib.hid hm; clear hm
              obtain ⟨b92, o93, A99, cap100, ea94, _, f95, f96, f97, hrr⟩ := ReadsR.ix (HP.rd_R HOA.out (List.Mem.tail _ (List.Mem.head _))) hy91
              cases ea94
              try simp only [Nat.zero_add, Nat.add_zero, Int.toNat_natCast, Int.toNat_zero, Int.toNat_one] at f97
              have HR101 := Lib.hid hrr; clear hrr
              try rw [← HP.len_R HOA.out (List.Mem.tail _ (List.Mem.head _))] at f96
              have HY102 := Lib.hid hy91; clear hy91
              obtain ⟨y103, hy104, hm⟩ := obind HL2.out
              replace HL2 := Lib.hid hm; clear hm
              obtain ⟨b105, o106, ea107, _, f108, f109, f110⟩ := ReadsI.ix HR101.out hy104
              cases ea107
              try simp only [Nat.zero_add, Nat.add_zero, Int.toNat_natCast, Int.toNat_zero, Int.toNat_one] at f110
              have HY112 := Lib.hid hy104; clear hy104
              obtain ⟨y126, hy127, hm⟩ := obind HL2.out
              replace HL2 := Lib.hid hm; clear hm
              obtain rfl := Option.some.inj (HY102.out.symm.trans hy127)
              obtain ⟨y115, hy114, hm⟩ := obind HL2.out
              replace HL2 := Lib.hid hm; clear hm
              obtain ⟨f116, hy114⟩ := st_some hy114; subst hy114
              obtain ⟨y128, hy129, hm⟩ := obind HL2.out
              replace HL2 := Lib.hid hm; clear hm
              obtain ⟨f117, hy129⟩ := st_some hy129; subst hy129
              obtain ⟨b123, o124, g122, cap125, ea, h0, h1, f118, f119, ⟨u121, f120⟩, hp, hb⟩ := HP.setR (x := (wrap64 (y103 + 1))) (its1 := [_]) HOA.out hy127 f116
              cases ea
              try simp only [Nat.zero_add, Nat.add_zero, Int.toNat_natCast, Int.toNat_zero, Int.toNat_one] at f118
              clear f117
              obtain ⟨q0, q1⟩ := f116
              try rw [← HP.len_R HOA.out (List.Mem.tail _ (List.Mem.head _))] at h1
              have hu := Option.some.inj (f97.symm.trans f118)
              injection hu with hu1 _ hu3; injection hu1 with hu1; injection hu1 with hu1 hu2 _; subst hu1 hu2 hu3
              try simp only [Nat.zero_add] at f88
              try simp only [Nat.zero_add] at f89
              try simp only [Nat.zero_add] at f95
              try simp only [Nat.zero_add] at f96
              try simp only [Nat.zero_add] at f97
              try simp only [Nat.zero_add] at f108
              try simp only [Nat.zero_add] at f109
              try simp only [Nat.zero_add] at f110
              clear f120
              clear hy127
              have HP_ := Lib.hid hp; have HB_ := Lib.hid hb; clear hp hb
              go_still_tail 11, (by kernel_rfl)
              change wpList _ _ _ _ _ (World.drew W71)
              go_wp2_with fail
              have hp := HP_.out.dr (Dr.one _); have hb := HB_.out.trans ((Dr.one _).below _); clear HP_ HB_
              generalize hW : World.drew (World.setCell W71 _ _) = W113 at *
              clear hW
              try clear h0 h1 f118 f119 q0 q1 f88 f89 f95 f96 f97 f108 f109 f110
              replace HOA := Lib.hid (show HP W113 w.heap.size [.fl (owL (.slice (some ⟨W31.heap.size, 0, none⟩) 1 1) ([y33])), .ro (.slice (some ⟨w.heap.size, 0, none⟩) N7 N7) ((List.set (List.set x29 (Int.toNat y33.1) (List.set y48 (Int.toNat y33.2) (wrap64 (y61 + 1)))) (Int.toNat y33.2) (List.set y90 (Int.toNat y33.1) (wrap64 (y103 + 1)))))] from hp); clear hp
              replace HD := Lib.hid (HD.out.trans hb); clear hb
              go_wp2_with fail
              replace HOA := Lib.hid (HOA.out.sub (.cons _ (.cons₂ _ .slnil)))
              go_roundg g2
              case measure => omega
              case rel => exact ⟨(wrap64 (j30 + 1)), (List.set (List.set x29 (Int.toNat y33.1) (List.set y48 (Int.toNat y33.2) (wrap64 (y61 + 1)))) (Int.toNat y33.2) (List.set y90 (Int.toNat y33.1) (wrap64 (y103 + 1)))), rfl, HD, HOA, HL2⟩
            · replace HL2 := Lib.hid (ifF hc32 HL2.out)
              obtain rfl := Option.some.inj HL2.out
              have hm := HM.out; try dsimp only at hm
              replace HM := Lib.hid hm; clear hm
              go_wp2_with fail
              try clear hc32
              obtain ⟨o130, ho, hm⟩ := obind HM.out
              replace HM := Lib.hid hm; have HL3 := Lib.hid ho; clear hm ho
              go_loopg [14] F (fun gg u133 wr => ∃ (x131 : List (List Int)) (x132 : Int), u133 = .int .i64 x132 ∧ Hid (Below w.heap.size w wr) ∧ Hid (HP wr w.heap.size [.ro (.slice (some ⟨w.heap.size, 0, none⟩) N7 N7) (x131)]) ∧ Hid (menger_find_L3 F (v0) (v2) (v3) gg x131 x132 = some o130))
              case atStart => exact ⟨x29, 0, rfl, HD, HOA, HL3⟩
              case round =>
                obtain ⟨x131, x132, rfl, HD, HOA, HL3⟩ := hrel
                rename World => W134
                cases gk with
                | zero => exact absurd ((menger_find_L3_0 ..).symm.trans HL3.out) (by intro h; cases h)
                | succ g3 =>
                  replace HL3 := Lib.hid ((menger_find_L3_s ..).symm.trans HL3.out)
                  obtain ⟨y135, hy136, hm⟩ := obind HL3.out
                  replace HL3 := Lib.hid hm; clear hm
                  obtain ⟨f137, hy136⟩ := mkI_some hy136
                  obtain ⟨N141, hN142⟩ : ∃ N, Int.toNat v0 = N := ⟨_, rfl⟩
                  rw [hN142] at hy136; subst hy136
                  have hmk138 := run_makeI f137; simp only [hN142] at hmk138
                  have hd : Below W134.heap.size W134 (W134.alloc (.cells (Array.replicate N141 (Value.int .i64 0)) 3)) := (Below.refl _ _).alloc (Nat.le_refl _) _
                  have ho := mkI_ok W134 f137; rw [hN142] at ho; clear hN142
                  go_upto_region 16 with (fail)
                  generalize hW : World.alloc W134 _ = W139 at *
                  clear hW hmk138 f137
                  replace HOA := Lib.hid (HOA.out.call hd HD.out.size ho); clear ho
                  replace HD := Lib.hid (HD.out.trans (hd.mono HD.out.size))
                  clear hd
                  go_wp2_with fail
                  obtain ⟨o143, ho, hm⟩ := obind HL3.out
                  try rw [List.length_replicate] at ho
                  replace HL3 := Lib.hid hm; have HL4 := Lib.hid ho; clear hm ho
                  go_loopg [71] F (fun gg uj wr => ∃ (j145 : Int) (x144 : List Int), uj = .int .i64 j145 ∧ Hid (Below w.heap.size w wr) ∧ Hid (HP wr w.heap.size [.fl (owI (.slice (some ⟨W134.heap.size, 0, none⟩) N141 N141) (x144)), .ro (.slice (some ⟨w.heap.size, 0, none⟩) N7 N7) (x131)]) ∧ Hid (menger_find_L4 F (((N141 : Nat) : Int)) gg j145 x144 = some o143))
                  case atStart => exact ⟨0, (List.replicate N141 0), rfl, HD, HOA, HL4⟩
                  case round =>
                    obtain ⟨j145, x144, rfl, HD, HOA, HL4⟩ := hrel
                    rename World => W146
                    cases gk with
                    | zero => exact absurd ((menger_find_L4_0 ..).symm.trans HL4.out) (by intro h; cases h)
                    | succ g4 =>
                      replace HL4 := Lib.hid ((menger_find_L4_s ..).symm.trans HL4.out)
                      by_cases hc147 : j145 < ((N141 : Nat) : Int)
                      · replace HL4 := Lib.hid (ifT hc147 HL4.out)
                        obtain ⟨y150, hy149, hm⟩ := obind HL4.out
                        replace HL4 := Lib.hid hm; clear hm
                        obtain ⟨f151, hy149⟩ := st_some hy149; subst hy149
                        obtain ⟨g157, ea, f154, ⟨u156, f155⟩, hp, hb⟩ := HP.setI (x := (-1)) (its1 := []) HOA.out f151
                        cases ea
                        obtain ⟨q0, q1⟩ := f151
                        try rw [← HP.len_I HOA.out (List.Mem.head _)] at q1
                        have HP_ := Lib.hid hp; have HB_ := Lib.hid hb; clear hp hb
                        go_wp2_with fail
                        have hp := HP_.out; have hb := HB_.out; clear HP_ HB_
                        generalize hW : World.setCell W146 _ _ = W148 at *
                        clear hW
                        try clear f154 f155 q0 q1 hc147
                        replace HOA := Lib.hid (show HP W148 w.heap.size [.fl (owI (.slice (some ⟨W134.heap.size, 0, none⟩) N141 N141) ((List.set x144 (Int.toNat j145) (-1)))), .ro (.slice (some ⟨w.heap.size, 0, none⟩) N7 N7) (x131)] from hp); clear hp
                        replace HD := Lib.hid (HD.out.trans hb); clear hb
                        go_wp2_with fail
                        go_roundg g4
                        case measure => omega
                        case rel => exact ⟨(wrap64 (j145 + 1)), (List.set x144 (Int.toNat j145) (-1)), rfl, HD, HOA, HL4⟩
                      · replace HL4 := Lib.hid (ifF hc147 HL4.out)
                        obtain rfl := Option.some.inj HL4.out
                        have hm := HL3.out; try dsimp only at hm
                        replace HL3 := Lib.hid hm; clear hm
                        obtain ⟨y163, hy162, hm⟩ := obind HL3.out
                        replace HL3 := Lib.hid hm; clear hm
                        obtain ⟨f164, hy162⟩ := st_some hy162; subst hy162
                        obtain ⟨g170, ea, f167, ⟨u169, f168⟩, hp, hb⟩ := HP.setI (x := v2) (its1 := []) HOA.out f164
                        cases ea
                        obtain ⟨q0, q1⟩ := f164
                        try rw [← HP.len_I HOA.out (List.Mem.head _)] at q1
                        have HP_ := Lib.hid hp; have HB_ := Lib.hid hb; clear hp hb
                        go_upto_region 22 with (fail)
                        have hp := HP_.out; have hb := HB_.out; clear HP_ HB_
                        generalize hW : World.setCell W146 _ _ = W161 at *
                        clear hW
                        try clear f167 f168 q0 q1 hc147
                        replace HOA := Lib.hid (show HP W161 w.heap.size [.fl (owI (.slice (some ⟨W134.heap.size, 0, none⟩) N141 N141) ((List.set x144 (Int.toNat v2) v2))), .ro (.slice (some ⟨w.heap.size, 0, none⟩) N7 N7) (x131)] from hp); clear hp
                        replace HD := Lib.hid (HD.out.trans hb); clear hb
                        go_upto_region 23 with (fail)
                        have hd : Below W161.heap.size W161 (W161.alloc (.cells #[Value.int .i64 (v2)] 3)) := (Below.refl _ _).alloc (Nat.le_refl _) _
                        have ho : (owI (.slice (some ⟨W161.heap.size, 0, none⟩) 1 1) [v2]).ok (W161.alloc (.cells #[Value.int .i64 (v2)] 3)) W161.heap.size := litI_ok W161 [v2] (by unfold maxLen; simp)
                        generalize hW : World.alloc W161 _ = W174 at *
                        clear hW
                        replace HOA := Lib.hid (HOA.out.call hd HD.out.size ho); clear ho
                        replace HOA := Lib.hid (HP.toTl (its1 := []) HOA.out)
                        replace HD := Lib.hid (HD.out.trans (hd.mono HD.out.size))
                        clear hd
                        go_wp2_with fail
                        obtain ⟨o177, ho, hm⟩ := obind HL3.out
                        replace HL3 := Lib.hid hm; have HL5 := Lib.hid ho; clear hm ho
                        go_loopg [17] F (fun gg u180 wr => ∃ (x178 : List Int) (x179 : List Int) (V181 : Value), V181 = u180 ∧ Hid (Below w.heap.size w wr) ∧ Hid (HP wr w.heap.size [.tl V181 (x179), .fl (owI (.slice (some ⟨W134.heap.size, 0, none⟩) N141 N141) (x178)), .ro (.slice (some ⟨w.heap.size, 0, none⟩) N7 N7) (x131)]) ∧ Hid (menger_find_L5 F (v0) (x131) gg x178 x179 = some o177))
                        case atStart => exact ⟨(List.set x144 (Int.toNat v2) v2), [v2], (.slice (some ⟨W161.heap.size, 0, none⟩) 1 1), rfl, HD, HOA, HL5⟩
                        case round =>
                          obtain ⟨x178, x179, V181, rfl, HD, HOA, HL5⟩ := hrel
                          rename World => W182
                          cases gk with
                          | zero => exact absurd ((menger_find_L5_0 ..).symm.trans HL5.out) (by intro h; cases h)
                          | succ g5 =>
                            replace HL5 := Lib.hid ((menger_find_L5_s ..).symm.trans HL5.out)
                            obtain ⟨A183, cap184, he, _⟩ := HP.open_T HOA.out (List.Mem.head _)
                            subst he
                            by_cases hc185 : 0 < ((x179).length : Int)
                            · replace HL5 := Lib.hid (ifT hc185 HL5.out)
                              have hc185n := hc185; try norm_cast at hc185n
                              go_wp2_with fail
                              try clear hc185 hc185n
                              obtain ⟨o186, ho, hm⟩ := obind HL5.out
                              replace HL5 := Lib.hid hm; have HL6 := Lib.hid ho; clear hm ho
                              go_loopg [90, 17] F (fun gg uj u189 wr => ∃ (j191 : Int) (x187 : List Int) (x188 : List Int) (V190 : Value), uj = .int .i64 j191 ∧ V190 = u189 ∧ Hid (Below w.heap.size w wr) ∧ Hid (HP wr w.heap.size [.tl V190 (x188), .fl (owI (.slice (some ⟨W134.heap.size, 0, none⟩) N141 N141) (x187)), .ro (.slice (some ⟨w.heap.size, 0, none⟩) N7 N7) (x131)]) ∧ Hid (menger_find_L6 F (v0) (x131) gg j191 x187 x188 = some o186))
                              case atStart => exact ⟨0, x178, x179, (.slice A183 (x179).length cap184), rfl, rfl, HD, HOA, HL6⟩
                              case round =>
                                obtain ⟨j191, x187, x188, V190, rfl, rfl, HD, HOA, HL6⟩ := hrel
                                rename World => W192
                                cases gk with
                                | zero => exact absurd ((menger_find_L6_0 ..).symm.trans HL6.out) (by intro h; cases h)
                                | succ g6 =>
                                  replace HL6 := Lib.hid ((menger_find_L6_s ..).symm.trans HL6.out)
                                  by_cases hc193 : j191 < v0
                                  · replace HL6 := Lib.hid (ifT hc193 HL6.out)
                                    obtain ⟨b194, hb, hm⟩ := obind HL6.out
                                    replace HL6 := Lib.hid hm; have HB195 := Lib.hid hb; clear hm hb
                                    obtain ⟨y196, hy197, hm⟩ := obind HB195.out
                                    replace HB195 := Lib.hid hm; clear hm
                                    obtain ⟨b198, o199, ea200, _, f201, f202, f203⟩ := ReadsI.ix (HP.rd_I HOA.out (List.Mem.tail _ (List.Mem.head _))) hy197
                                    cases ea200
                                    try simp only [Nat.zero_add, Nat.add_zero, Int.toNat_natCast, Int.toNat_zero, Int.toNat_one] at f203
                                    try rw [← HP.len_I HOA.out (List.Mem.tail _ (List.Mem.head _))] at f202
                                    have HY205 := Lib.hid hy197; clear hy197
                                    by_cases hc206 : y196 < 0
                                    · replace HB195 := Lib.hid (ifT hc206 HB195.out)
                                      obtain ⟨A209, cap210, he, _⟩ := HP.open_T HOA.out (List.Mem.head _)
                                      subst he
                                      obtain ⟨y207, hy208, hm⟩ := obind HB195.out
                                      replace HB195 := Lib.hid hm; clear hm
                                      obtain ⟨b211, o212, ea213, _, f214, f215, f216⟩ := ReadsI.ix (HP.rd_T HOA.out (List.Mem.head _)) hy208
                                      cases ea213
                                      try simp only [Nat.zero_add, Nat.add_zero, Int.toNat_natCast, Int.toNat_zero, Int.toNat_one] at f216
                                      try rw [← HP.len_T HOA.out (List.Mem.head _)] at f215
                                      have HY218 := Lib.hid hy208; clear hy208
                                      obtain ⟨y219, hy220, hm⟩ := obind HB195.out
                                      replace HB195 := Lib.hid hm; clear hm
                                      obtain ⟨b221, o222, A228, cap229, ea223, _, f224, f225, f226, hrr⟩ := ReadsR.ix (HP.rd_R HOA.out (List.Mem.tail _ (List.Mem.tail _ (List.Mem.head _)))) hy220
                                      cases ea223
                                      try simp only [Nat.zero_add, Nat.add_zero, Int.toNat_natCast, Int.toNat_zero, Int.toNat_one] at f226
                                      have HR230 := Lib.hid hrr; clear hrr
                                      try rw [← HP.len_R HOA.out (List.Mem.tail _ (List.Mem.tail _ (List.Mem.head _)))] at f225
                                      have HY231 := Lib.hid hy220; clear hy220
                                      obtain ⟨y232, hy233, hm⟩ := obind HB195.out
                                      replace HB195 := Lib.hid hm; clear hm
                                      obtain ⟨b234, o235, ea236, _, f237, f238, f239⟩ := ReadsI.ix HR230.out hy233
                                      cases ea236
                                      try simp only [Nat.zero_add, Nat.add_zero, Int.toNat_natCast, Int.toNat_zero, Int.toNat_one] at f239
                                      have HY241 := Lib.hid hy233; clear hy233
                                      by_cases hc242 : 0 < y232
                                      · replace HB195 := Lib.hid (ifT hc242 HB195.out)
                                        obtain rfl := Option.some.inj HB195.out
                                        replace HL6 := Lib.hid (ifT rfl HL6.out)
                                        obtain ⟨y243, hy244, hm⟩ := obind HL6.out
                                        replace HL6 := Lib.hid hm; clear hm
                                        obtain rfl := Option.some.inj (HY218.out.symm.trans hy244)
                                        clear hy244
                                        obtain ⟨y247, hy246, hm⟩ := obind HL6.out
                                        replace HL6 := Lib.hid hm; clear hm
                                        obtain ⟨f248, hy246⟩ := st_some hy246; subst hy246
                                        obtain ⟨g254, ea, f251, ⟨u253, f252⟩, hp, hb⟩ := HP.setI (x := y207) (its1 := [_]) HOA.out f248
                                        cases ea
                                        obtain ⟨q0, q1⟩ := f248
                                        try rw [← HP.len_I HOA.out (List.Mem.tail _ (List.Mem.head _))] at q1
                                        clear f252
                                        have HP_ := Lib.hid hp; have HB_ := Lib.hid hb; clear hp hb
                                        go_upto_region 30 with (fail)
                                        have hp := HP_.out; have hb := HB_.out; clear HP_ HB_
                                        generalize hW : World.setCell W192 _ _ = W245 at *
                                        clear hW
                                        try clear f251 q0 q1 hc193 f201 f202 f203 hc206 f214 f215 f216 f224 f225 f226 f237 f238 f239 hc242
                                        replace HOA := Lib.hid (show HP W245 w.heap.size [.tl (.slice (some ⟨b211, o212, none⟩) (x188).length cap210) (x188), .fl (owI (.slice (some ⟨W134.heap.size, 0, none⟩) N141 N141) ((List.set x187 (Int.toNat j191) y207))), .ro (.slice (some ⟨w.heap.size, 0, none⟩) N7 N7) (x131)] from hp); clear hp
                                        replace HD := Lib.hid (HD.out.trans hb); clear hb
                                        obtain ⟨y258, hy259, hm⟩ := obind HL6.out
                                        replace HL6 := Lib.hid hm; clear hm
                                        obtain ⟨f260, hy259⟩ := app_some hy259; subst hy259
                                        have HF263 := Lib.hid f260; clear f260
                                        go_wp2_with (at_builtin; refine hp_appT _ (.tmp 116) (.tmp 118) 25 Tryd.underlying25 rfl rfl (L1 := []) HOA.out rfl rfl HF263.out HD.out.size ?_; intro V261 W262 hoa hd)
                                        replace HOA := Lib.hid (show HP W262 w.heap.size [.tl V261 ((x188 ++ [j191])), .fl (owI (.slice (some ⟨W134.heap.size, 0, none⟩) N141 N141) ((List.set x187 (Int.toNat j191) y207))), .ro (.slice (some ⟨w.heap.size, 0, none⟩) N7 N7) (x131)] from hoa); clear hoa
                                        replace HD := Lib.hid (HD.out.trans hd); clear hd
                                        go_wp2_with fail
                                        go_roundg g6
                                        case measure => omega
                                        case rel => exact ⟨(wrap64 (j191 + 1)), (List.set x187 (Int.toNat j191) y207), (x188 ++ [j191]), V261, rfl, rfl, HD, HOA, HL6⟩
                                      · replace HB195 := Lib.hid (ifF hc242 HB195.out)
                                        obtain rfl := Option.some.inj HB195.out
                                        replace HL6 := Lib.hid (ifF Bool.false_ne_true HL6.out)
                                        go_wp2_with fail
                                        try clear hc193 f201 f202 f203 hc206 f214 f215 f216 f224 f225 f226 f237 f238 f239 hc242
                                        go_roundg g6
                                        case measure => omega
                                        case rel => exact ⟨(wrap64 (j191 + 1)), x187, x188, (.slice (some ⟨b211, o212, none⟩) (x188).length cap210), rfl, rfl, HD, HOA, HL6⟩
                                    · replace HB195 := Lib.hid (ifF hc206 HB195.out)
                                      obtain rfl := Option.some.inj HB195.out
                                      replace HL6 := Lib.hid (ifF Bool.false_ne_true HL6.out)
                                      go_wp2_with fail
                                      try clear hc193 f201 f202 f203 hc206
                                      go_roundg g6
                                      case measure => omega
                                      case rel => exact ⟨(wrap64 (j191 + 1)), x187, x188, V190, rfl, rfl, HD, HOA, HL6⟩
                                  · replace HL6 := Lib.hid (ifF hc193 HL6.out)
                                    obtain rfl := Option.some.inj HL6.out
                                    have hm := HL5.out; try dsimp only at hm
                                    replace HL5 := Lib.hid hm; clear hm
                                    obtain ⟨A264, cap265, he, _⟩ := HP.open_T HOA.out (List.Mem.head _)
                                    subst he
                                    obtain ⟨y266, hy267, hm⟩ := obind HL5.out
                                    replace HL5 := Lib.hid hm; clear hm
                                    obtain ⟨f268, hy267⟩ := dr_some hy267; subst hy267
                                    obtain ⟨A269, n272, cap270, hsl271, hp⟩ := HP.sliceT (its1 := []) HOA.out f268
                                    clear f268
                                    replace HOA := Lib.hid (show HP W192 w.heap.size [.tl (.slice A269 n272 cap270) ((List.drop (Int.toNat 1) x188)), .fl (owI (.slice (some ⟨W134.heap.size, 0, none⟩) N141 N141) (x187)), .ro (.slice (some ⟨w.heap.size, 0, none⟩) N7 N7) (x131)] from hp); clear hp
                                    go_wp2_with fail
                                    try clear hc193 hsl271
                                    go_roundg g5
                                    case measure => omega
                                    case rel => exact ⟨x187, (List.drop (Int.toNat 1) x188), (.slice A269 n272 cap270), rfl, HD, HOA, HL5⟩
                            · replace HL5 := Lib.hid (ifF hc185 HL5.out)
                              have hc185n := hc185; try norm_cast at hc185n
                              obtain rfl := Option.some.inj HL5.out
                              have hm := HL3.out; try dsimp only at hm
                              replace HL3 := Lib.hid hm; clear hm
                              obtain ⟨y273, hy274, hm⟩ := obind HL3.out
                              replace HL3 := Lib.hid hm; clear hm
                              obtain ⟨b275, o276, ea277, _, f278, f279, f280⟩ := ReadsI.ix (HP.rd_I HOA.out (List.Mem.tail _ (List.Mem.head _))) hy274
                              cases ea277
                              try simp only [Nat.zero_add, Nat.add_zero, Int.toNat_natCast, Int.toNat_zero, Int.toNat_one] at f280
                              try rw [← HP.len_I HOA.out (List.Mem.tail _ (List.Mem.head _))] at f279
                              have HY282 := Lib.hid hy274; clear hy274
                              by_cases hc283 : y273 < 0
                              · replace HL3 := Lib.hid (ifT hc283 HL3.out)
                                go_wp2_with fail
                                try clear hc185 hc185n f278 f279 f280 hc283
                                obtain ⟨o284, ho, hm⟩ := obind HL3.out
                                replace HL3 := Lib.hid hm; have HL7 := Lib.hid ho; clear hm ho
                                go_loopg [128, 19] F (fun gg uj u286 wr => ∃ (j287 : Int) (x285 : Nat), uj = .int .i64 j287 ∧ u286 = .int .u64 ((x285 : Nat) : Int) ∧ Hid (Below W182.heap.size W182 wr) ∧ Hid (menger_find_L7 F (x178) gg j287 x285 = some o284))
                                case atStart => exact ⟨0, 0, rfl, rfl, (Lib.hid (Below.refl _ _)), HL7⟩
                                case round =>
                                  obtain ⟨j287, x285, rfl, rfl, HW7, HL7⟩ := hrel
                                  rename World => W288
                                  have hd := HW7.out
                                  replace HOA := Lib.hid (HOA.out.below hd)
                                  replace HD := Lib.hid (HD.out.trans (hd.mono HD.out.size))
                                  clear hd
                                  cases gk with
                                  | zero => exact absurd ((menger_find_L7_0 ..).symm.trans HL7.out) (by intro h; cases h)
                                  | succ g7 =>
                                    replace HL7 := Lib.hid ((menger_find_L7_s ..).symm.trans HL7.out)
                                    by_cases hc289 : j287 < ((x178).length : Int)
                                    · replace HL7 := Lib.hid (ifT hc289 HL7.out)
                                      try rw [← HP.len_I HOA.out (List.Mem.tail _ (List.Mem.head _))] at hc289
                                      obtain ⟨y290, hy291, hm⟩ := obind HL7.out
                                      replace HL7 := Lib.hid hm; clear hm
                                      obtain ⟨b292, o293, ea294, _, f295, f296, f297⟩ := ReadsI.ix (HP.rd_I HOA.out (List.Mem.tail _ (List.Mem.head _))) hy291
                                      cases ea294
                                      try simp only [Nat.zero_add, Nat.add_zero, Int.toNat_natCast, Int.toNat_zero, Int.toNat_one] at f297
                                      try rw [← HP.len_I HOA.out (List.Mem.tail _ (List.Mem.head _))] at f296
                                      have HY299 := Lib.hid hy291; clear hy291
                                      by_cases hc300 : 0 ≤ y290
                                      · replace HL7 := Lib.hid (ifT hc300 HL7.out)
                                        obtain ⟨y303, hy301, hm⟩ := obind HL7.out
                                        replace HL7 := Lib.hid hm; clear hm
                                        have HC302 := sWith_ok W288  hy301
                                        clear hy301
                                        replace HC302 := Lib.hid HC302
                                        go_wp2_with fail
                                        refine HC302.out.mono ?_; rintro e w' ⟨rfl, rfl⟩
                                        go_wp2_with fail
                                        try clear hc289 f295 f296 f297 hc300
                                        go_roundg g7
                                        case measure => omega
                                        case rel => exact ⟨(wrap64 (j287 + 1)), y303, rfl, rfl, HW7, HL7⟩
                                      · replace HL7 := Lib.hid (ifF hc300 HL7.out)
                                        go_wp2_with fail
                                        try clear hc289 f295 f296 f297 hc300
                                        go_roundg g7
                                        case measure => omega
                                        case rel => exact ⟨(wrap64 (j287 + 1)), x285, rfl, rfl, HW7, HL7⟩
                                    · replace HL7 := Lib.hid (ifF hc289 HL7.out)
                                      try rw [← HP.len_I HOA.out (List.Mem.tail _ (List.Mem.head _))] at hc289
                                      obtain rfl := Option.some.inj HL7.out
                                      have hm := HL3.out; try dsimp only at hm
                                      replace HL3 := Lib.hid hm; clear hm
                                      obtain rfl := Option.some.inj HL3.out
                                      have hm := HM.out; try dsimp only at hm
                                      replace HM := Lib.hid hm; clear hm
                                      obtain rfl := Option.some.inj HM.out
                                      go_wp2_with fail
                                      try clear hc289
                                      go_ret2
                                      exact ⟨rfl, HD.out⟩
                              · replace HL3 := Lib.hid (ifF hc283 HL3.out)
                                go_wp2_with fail
                                try clear hc185 hc185n f278 f279 f280 hc283
                                obtain ⟨o304, ho, hm⟩ := obind HL3.out
                                replace HL3 := Lib.hid hm; have HL8 := Lib.hid ho; clear hm ho
                                go_loopg [22] F (fun gg u307 wr => ∃ (x305 : List (List Int)) (x306 : Int), u307 = .int .i64 x306 ∧ Hid (Below w.heap.size w wr) ∧ Hid (HP wr w.heap.size [.tl (.slice A183 (x179).length cap184) (x179), .fl (owI (.slice (some ⟨W134.heap.size, 0, none⟩) N141 N141) (x178)), .ro (.slice (some ⟨w.heap.size, 0, none⟩) N7 N7) (x305)]) ∧ Hid (menger_find_L8 F (v2) (x178) gg x305 x306 = some o304))
                                case atStart => exact ⟨x131, v3, rfl, HD, HOA, HL8⟩
                                case round =>
                                  obtain ⟨x305, x306, rfl, HD, HOA, HL8⟩ := hrel
                                  rename World => W308
                                  cases gk with
                                  | zero => exact absurd ((menger_find_L8_0 ..).symm.trans HL8.out) (by intro h; cases h)
                                  | succ g8 =>
                                    replace HL8 := Lib.hid ((menger_find_L8_s ..).symm.trans HL8.out)
                                    rcases Bool.eq_false_or_eq_true (x306 != v2) with hc309 | hc309
                                    · replace HL8 := Lib.hid (ifT hc309 HL8.out)
                                      obtain ⟨y310, hy311, hm⟩ := obind HL8.out
                                      replace HL8 := Lib.hid hm; clear hm
                                      obtain ⟨b312, o313, ea314, _, f315, f316, f317⟩ := ReadsI.ix (HP.rd_I HOA.out (List.Mem.tail _ (List.Mem.head _))) hy311
                                      cases ea314
                                      try simp only [Nat.zero_add, Nat.add_zero, Int.toNat_natCast, Int.toNat_zero, Int.toNat_one] at f317
                                      try rw [← HP.len_I HOA.out (List.Mem.tail _ (List.Mem.head _))] at f316
                                      have HY319 := Lib.hid hy311; clear hy311
                                      obtain ⟨y320, hy321, hm⟩ := obind HL8.out
                                      replace HL8 := Lib.hid hm; clear hm
                                      obtain rfl := Option.some.inj (HY319.out.symm.trans hy321)
                                      clear hy321
                                      obtain ⟨y322, hy323, hm⟩ := obind HL8.out
                                      replace HL8 := Lib.hid hm; clear hm
                                      obtain ⟨b324, o325, A331, cap332, ea326, _, f327, f328, f329, hrr⟩ := ReadsR.ix (HP.rd_R HOA.out (List.Mem.tail _ (List.Mem.tail _ (List.Mem.head _)))) hy323
                                      cases ea326
                                      try simp only [Nat.zero_add, Nat.add_zero, Int.toNat_natCast, Int.toNat_zero, Int.toNat_one] at f329
                                      have HR333 := Lib.hid hrr; clear hrr
                                      try rw [← HP.len_R HOA.out (List.Mem.tail _ (List.Mem.tail _ (List.Mem.head _)))] at f328
                                      have HY334 := Lib.hid hy323; clear hy323
                                      obtain ⟨y335, hy336, hm⟩ := obind HL8.out
                                      replace HL8 := Lib.hid hm; clear hm
                                      obtain ⟨b337, o338, ea339, _, f340, f341, f342⟩ := ReadsI.ix HR333.out hy336
                                      cases ea339
                                      try simp only [Nat.zero_add, Nat.add_zero, Int.toNat_natCast, Int.toNat_zero, Int.toNat_one] at f342
                                      have HY344 := Lib.hid hy336; clear hy336
                                      obtain ⟨y358, hy359, hm⟩ := obind HL8.out
                                      replace HL8 := Lib.hid hm; clear hm
                                      obtain rfl := Option.some.inj (HY334.out.symm.trans hy359)
                                      obtain ⟨y347, hy346, hm⟩ := obind HL8.out
                                      replace HL8 := Lib.hid hm; clear hm
                                      obtain ⟨f348, hy346⟩ := st_some hy346; subst hy346
                                      obtain ⟨y360, hy361, hm⟩ := obind HL8.out
                                      replace HL8 := Lib.hid hm; clear hm
                                      obtain ⟨f349, hy361⟩ := st_some hy361; subst hy361
                                      obtain ⟨b355, o356, g354, cap357, ea, h0, h1, f350, f351, ⟨u353, f352⟩, hp, hb⟩ := HP.setR (x := (wrap64 (y335 - 1))) (its1 := [_, _]) HOA.out hy359 f348
                                      cases ea
                                      try simp only [Nat.zero_add, Nat.add_zero, Int.toNat_natCast, Int.toNat_zero, Int.toNat_one] at f350
                                      clear f349
                                      obtain ⟨q0, q1⟩ := f348
                                      try rw [← HP.len_R HOA.out (List.Mem.tail _ (List.Mem.tail _ (List.Mem.head _)))] at h1
                                      have hu := Option.some.inj (f329.symm.trans f350)
                                      injection hu with hu1 _ hu3; injection hu1 with hu1; injection hu1 with hu1 hu2 _; subst hu1 hu2 hu3
                                      try simp only [Nat.zero_add] at f315
                                      try simp only [Nat.zero_add] at f316
                                      try simp only [Nat.zero_add] at f317
                                      try simp only [Nat.zero_add] at f327
                                      try simp only [Nat.zero_add] at f328
                                      try simp only [Nat.zero_add] at f329
                                      try simp only [Nat.zero_add] at f340
                                      try simp only [Nat.zero_add] at f341
                                      try simp only [Nat.zero_add] at f342
                                      clear f352
                                      clear hy359
                                      have HP_ := Lib.hid hp; have HB_ := Lib.hid hb; clear hp hb
                                      go_upto_region 45 with (fail)
                                      have hp := HP_.out; have hb := HB_.out; clear HP_ HB_
                                      generalize hW : World.setCell W308 _ _ = W345 at *
                                      clear hW
                                      try clear h0 h1 f350 f351 q0 q1 hc309 f315 f316 f317 f327 f328 f329 f340 f341 f342
                                      replace HOA := Lib.hid (show HP W345 w.heap.size [.tl (.slice A183 (x179).length cap184) (x179), .fl (owI (.slice (some ⟨W134.heap.size, 0, none⟩) N141 N141) (x178)), .ro (.slice (some ⟨w.heap.size, 0, none⟩) N7 N7) ((List.set x305 (Int.toNat y310) (List.set y322 (Int.toNat x306) (wrap64 (y335 - 1)))))] from hp); clear hp
                                      replace HD := Lib.hid (HD.out.trans hb); clear hb
                                      try go_wp2_with fail
                                      obtain ⟨y362, hy363, hm⟩ := obind HL8.out
                                      replace HL8 := Lib.hid hm; clear hm
                                      obtain ⟨b364, o365, ea366, _, f367, f368, f369⟩ := ReadsI.ix (HP.rd_I HOA.out (List.Mem.tail _ (List.Mem.head _))) hy363
                                      cases ea366
                                      try simp only [Nat.zero_add, Nat.add_zero, Int.toNat_natCast, Int.toNat_zero, Int.toNat_one] at f369
                                      try rw [← HP.len_I HOA.out (List.Mem.tail _ (List.Mem.head _))] at f368
                                      have HY371 := Lib.hid hy363; clear hy363
                                      obtain ⟨y372, hy373, hm⟩ := obind HL8.out
                                      replace HL8 := Lib.hid hm; clear hm
                                      obtain ⟨b374, o375, A381, cap382, ea376, _, f377, f378, f379, hrr⟩ := ReadsR.ix (HP.rd_R HOA.out (List.Mem.tail _ (List.Mem.tail _ (List.Mem.head _)))) hy373
                                      cases ea376
                                      try simp only [Nat.zero_add, Nat.add_zero, Int.toNat_natCast, Int.toNat_zero, Int.toNat_one] at f379
                                      have HR383 := Lib.hid hrr; clear hrr
                                      try rw [← HP.len_R HOA.out (List.Mem.tail _ (List.Mem.tail _ (List.Mem.head _)))] at f378
                                      have HY384 := Lib.hid hy373; clear hy373
                                      obtain ⟨y385, hy386, hm⟩ := obind HL8.out
                                      replace HL8 := Lib.hid hm; clear hm
                                      obtain rfl := Option.some.inj (HY371.out.symm.trans hy386)
                                      clear hy386
                                      obtain ⟨y387, hy388, hm⟩ := obind HL8.out
                                      replace HL8 := Lib.hid hm; clear hm
                                      obtain ⟨b389, o390, ea391, _, f392, f393, f394⟩ := ReadsI.ix HR383.out hy388
                                      cases ea391
                                      try simp only [Nat.zero_add, Nat.add_zero, Int.toNat_natCast, Int.toNat_zero, Int.toNat_one] at f394
                                      have HY396 := Lib.hid hy388; clear hy388
                                      obtain ⟨y410, hy411, hm⟩ := obind HL8.out
                                      replace HL8 := Lib.hid hm; clear hm
                                      obtain rfl := Option.some.inj (HY384.out.symm.trans hy411)
                                      obtain ⟨y399, hy398, hm⟩ := obind HL8.out
                                      replace HL8 := Lib.hid hm; clear hm
                                      obtain ⟨f400, hy398⟩ := st_some hy398; subst hy398
                                      obtain ⟨y412, hy413, hm⟩ := obind HL8.out
                                      replace HL8 := Lib.hid hm; clear hm
                                      obtain ⟨f401, hy413⟩ := st_some hy413; subst hy413
                                      obtain ⟨b407, o408, g406, cap409, ea, h0, h1, f402, f403, ⟨u405, f404⟩, hp, hb⟩ := HP.setR (x := (wrap64 (y387 + 1))) (its1 := [_, _]) HOA.out hy411 f400
                                      cases ea
                                      try simp only [Nat.zero_add, Nat.add_zero, Int.toNat_natCast, Int.toNat_zero, Int.toNat_one] at f402
                                      clear f401
                                      obtain ⟨q0, q1⟩ := f400
                                      try rw [← HP.len_R HOA.out (List.Mem.tail _ (List.Mem.tail _ (List.Mem.head _)))] at h1
                                      have hu := Option.some.inj (f379.symm.trans f402)
                                      injection hu with hu1 _ hu3; injection hu1 with hu1; injection hu1 with hu1 hu2 _; subst hu1 hu2 hu3
                                      try simp only [Nat.zero_add] at f367
                                      try simp only [Nat.zero_add] at f368
                                      try simp only [Nat.zero_add] at f369
                                      try simp only [Nat.zero_add] at f377
                                      try simp only [Nat.zero_add] at f378
                                      try simp only [Nat.zero_add] at f379
                                      try simp only [Nat.zero_add] at f392
                                      try simp only [Nat.zero_add] at f393
                                      try simp only [Nat.zero_add] at f394
                                      clear f404
                                      clear hy411
                                      have HP_ := Lib.hid hp; have HB_ := Lib.hid hb; clear hp hb
                                      go_still_tail 12, (by kernel_rfl)
                                      change wpList _ _ _ _ _ (World.drew W345)
                                      go_upto_region 43 with (fail)
                                      have hp := HP_.out.dr (Dr.one _); have hb := HB_.out.trans ((Dr.one _).below _); clear HP_ HB_
                                      generalize hW : World.drew (World.setCell W345 _ _) = W397 at *
                                      clear hW
                                      try clear h0 h1 f402 f403 q0 q1 f367 f368 f369 f377 f378 f379 f392 f393 f394
                                      replace HOA := Lib.hid (show HP W397 w.heap.size [.tl (.slice A183 (x179).length cap184) (x179), .fl (owI (.slice (some ⟨W134.heap.size, 0, none⟩) N141 N141) (x178)), .ro (.slice (some ⟨w.heap.size, 0, none⟩) N7 N7) ((List.set (List.set x305 (Int.toNat y310) (List.set y322 (Int.toNat x306) (wrap64 (y335 - 1)))) (Int.toNat x306) (List.set y372 (Int.toNat y362) (wrap64 (y387 + 1)))))] from hp); clear hp
                                      replace HD := Lib.hid (HD.out.trans hb); clear hb
                                      obtain ⟨y414, hy415, hm⟩ := obind HL8.out
                                      replace HL8 := Lib.hid hm; clear hm
                                      obtain ⟨b416, o417, ea418, _, f419, f420, f421⟩ := ReadsI.ix (HP.rd_I HOA.out (List.Mem.tail _ (List.Mem.head _))) hy415
                                      cases ea418
                                      try simp only [Nat.zero_add, Nat.add_zero, Int.toNat_natCast, Int.toNat_zero, Int.toNat_one] at f421
                                      try rw [← HP.len_I HOA.out (List.Mem.tail _ (List.Mem.head _))] at f420
                                      have HY423 := Lib.hid hy415; clear hy415
                                      go_wp2_with fail
                                      try clear f419 f420 f421
                                      go_roundg g8
                                      case measure => omega
                                      case rel => exact ⟨(List.set (List.set x305 (Int.toNat y310) (List.set y322 (Int.toNat x306) (wrap64 (y335 - 1)))) (Int.toNat x306) (List.set y372 (Int.toNat y362) (wrap64 (y387 + 1)))), y414, rfl, HD, HOA, HL8⟩
                                    · replace HL8 := Lib.hid (ifF (bF hc309) HL8.out)
                                      obtain rfl := Option.some.inj HL8.out
                                      have hm := HL3.out; try dsimp only at hm
                                      replace HL3 := Lib.hid hm; clear hm
                                      go_wp2_with fail
                                      try clear hc309
                                      replace HOA := Lib.hid (HOA.out.sub (.cons _ (.cons _ (.cons₂ _ .slnil))))
                                      go_roundg g3
                                      case measure => omega
                                      case rel => exact ⟨x305, (wrap64 (x132 + 1)), rfl, HD, HOA, HL3⟩
end Go.Proofs.YtgihnflaikmakaaDoor
