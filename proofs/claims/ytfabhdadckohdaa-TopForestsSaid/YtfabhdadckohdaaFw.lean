import Derived.Test.YtfabhdadckohdaaGF
import Derived.Test.YtfabhdadckohdaaAst
import Derived.Test.YtfabhdadckohdaaBox
import Derived.Test.YtfabhdadckohdaaQB
import Derived.Test.YtfabhdadckohdaaPhC
import Derived.Test.YtfabhdadckohdaaR7
import Derived.Test.YtfabhdadckohdaaP3
import Derived.Test.YtfabhdadckohdaaBxR
import Derived.Test.YtfabhdadckohdaaGR
set_option linter.all false
set_option maxRecDepth 100000
namespace Go.Proofs.Ytfabhdadckohdaa
open Go.RowKit
attribute [local go_sem] Oper.semAt_some
def LT_forest_L1 (F : Nat) (v0 : Int) (v1 : List (Int × Int)) (v2 : List Int) : Nat → (List (Int × Int)) → (Int) → Option ((List (Int × Int) × Int) ⊕ (Bool))
  | 0, _, _ => none
  | g+1, v4, v5 => if v5 < ((v2).length : Int) then ((R1_Far F (v0) (v4) (true) ((-1))).bind fun y1 => (ix v2 v5).bind fun y2 => (ix v1 y2).bind fun y3 => (ix y1 y3.1).bind fun y4 => (ix v2 v5).bind fun y5 => (ix v1 y5).bind fun y6 => (ix y4 y6.2).bind fun y7 => if 0 ≤ y7 then some (.inr (false)) else (ix v2 v5).bind fun y9 => (ix v1 y9).bind fun y10 => (app v4 y10).bind fun y8 => LT_forest_L1 F v0 v1 v2 g (y8) ((wrap64 (v5 + 1)))) else some (.inl (v4, v5))
theorem LT_forest_L1_0 (F : Nat) (v0 : Int) (v1 : List (Int × Int)) (v2 : List Int) (v4 : List (Int × Int)) (v5 : Int) : LT_forest_L1 F v0 v1 v2 0 v4 v5 = none := by rw [LT_forest_L1]
theorem LT_forest_L1_s (F g : Nat) (v0 : Int) (v1 : List (Int × Int)) (v2 : List Int) (v4 : List (Int × Int)) (v5 : Int) : LT_forest_L1 F v0 v1 v2 (g+1) v4 v5 = (if v5 < ((v2).length : Int) then ((R1_Far F (v0) (v4) (true) ((-1))).bind fun y1 => (ix v2 v5).bind fun y2 => (ix v1 y2).bind fun y3 => (ix y1 y3.1).bind fun y4 => (ix v2 v5).bind fun y5 => (ix v1 y5).bind fun y6 => (ix y4 y6.2).bind fun y7 => if 0 ≤ y7 then some (.inr (false)) else (ix v2 v5).bind fun y9 => (ix v1 y9).bind fun y10 => (app v4 y10).bind fun y8 => LT_forest_L1 F v0 v1 v2 g (y8) ((wrap64 (v5 + 1)))) else some (.inl (v4, v5))) := by rw [LT_forest_L1]
def LT_forest (F : Nat) (v0 : Int) (v1 : List (Int × Int)) (v2 : List Int) : Option (Bool) := (LT_forest_L1 F (v0) (v1) (v2) F ([]) (0)).bind fun o11 => match o11 with | .inr r => some (r) | .inl o11 => some (true)
set_option maxRecDepth 100000 in
set_option maxHeartbeats 4000000 in
theorem LT_forest_ok {F : Nat} {v0 : Int} {v1 : List (Int × Int)} {A1 : Option Addr} {v2 : List Int} {A2 : Option Addr} {r : Bool} (w : World) (cap1 : Nat) (hr1 : ReadsL w w.heap.size A1 v1) (cap2 : Nat) (hr2 : ReadsI w w.heap.size A2 v2) (h : LT_forest F v0 v1 v2 = some r) :
    Calls Try.prog 16 #[.int .i64 v0, .slice A1 v1.length cap1, .slice A2 v2.length cap2] w fun e w' => e = .returned (.bool r) ∧ Below w.heap.size w w' := by
  have HR1 := Lib.hid hr1; clear hr1
  have HR2 := Lib.hid hr2; clear hr2
  have HD := Lib.hid (Below.refl w.heap.size w)
  have HOA := Lib.hid (HP.nil (W := w) (B := w.heap.size))
  unfold LT_forest at h
  have HM := Lib.hid h; clear h
  go_enter Try.func16, Try.ntmps16
  replace HOA := Lib.hid (show HP _ _ (.fl (owL (.slice none 0 0) ([])) :: _) from HOA.out.pushNil _ _)
  go_wp2_with fail
  obtain ⟨o2, ho, hm⟩ := obind HM.out
  replace HM := Lib.hid hm; have HL1 := Lib.hid ho; clear hm ho
  go_loopg [7, 8] F (fun gg ux5 ux6 wr => ∃ (x3 : List (Int × Int)) (x4 : Int) (V7 : Value), V7 = ux5 ∧ ux6 = .int .i64 x4 ∧ Hid (Below w.heap.size w wr) ∧ Hid (HP wr w.heap.size [.fl (owL V7 (x3))]) ∧ Hid (LT_forest_L1 F (v0) (v1) (v2) gg x3 x4 = some o2))
  case atStart => exact ⟨[], 0, (.slice none 0 0), rfl, rfl, HD, HOA, HL1⟩
  case round =>
    obtain ⟨x3, x4, V7, rfl, rfl, HD, HOA, HL1⟩ := hrel
    rename World => W8
    cases gk with
    | zero => exact absurd ((LT_forest_L1_0 ..).symm.trans HL1.out) (by intro h; cases h)
    | succ g1 =>
      replace HL1 := Lib.hid ((LT_forest_L1_s ..).symm.trans HL1.out)
      by_cases hc9 : x4 < ((v2).length : Int)
      · replace HL1 := Lib.hid (ifT hc9 HL1.out)
        have HK10 := Lib.hid hc9
        try go_wp2_with fail
        try clear hc9
        obtain ⟨y13, hy11, hm⟩ := obind HL1.out
        replace HL1 := Lib.hid hm; clear hm
        obtain ⟨A14, cap15, he, _⟩ := HP.open_L HOA.out (List.Mem.head _)
        subst he
        have HC12 := Lib.hid (fun (W_ : World) (hb_ : Below W8.heap.size W8 W_) => R1_Far_ok W_ cap15 (HP.rd_L (HOA.out.below hb_) (List.Mem.head _)) hy11); clear hy11
        obtain ⟨y16, hy17, hm⟩ := obind HL1.out
        replace HL1 := Lib.hid hm; clear hm
        obtain ⟨b18, o19, ea20, _, f21, f22, f23⟩ := ReadsI.ix (rdI HD.out HR2.out) hy17
        cases ea20
        try simp only [Nat.zero_add, Nat.add_zero, Int.toNat_natCast, Int.toNat_zero, Int.toNat_one] at f23
        have HY25 := Lib.hid hy17; clear hy17
        obtain ⟨y26, hy27, hm⟩ := obind HL1.out
        replace HL1 := Lib.hid hm; clear hm
        obtain ⟨b28, o29, ea30, _, f31, f32, f33, f34⟩ := ReadsL.ix (rdL HD.out HR1.out) hy27
        cases ea30
        try simp only [Nat.zero_add, Nat.add_zero, Int.toNat_natCast, Int.toNat_zero, Int.toNat_one] at f33 f34
        have HY35 := Lib.hid hy27; clear hy27
        try (have f21_r := fun (W_ : World) (hb_ : Below W8.heap.size W8 W_) => cell_later hb_ f21)
        try (have f22_r := fun (W_ : World) (hb_ : Below W8.heap.size W8 W_) => cell_later hb_ f22)
        try (have f23_r := fun (W_ : World) (hb_ : Below W8.heap.size W8 W_) => cell_later hb_ f23)
        try (have f31_r := fun (W_ : World) (hb_ : Below W8.heap.size W8 W_) => cell_later hb_ f31)
        try (have f32_r := fun (W_ : World) (hb_ : Below W8.heap.size W8 W_) => cell_later hb_ f32)
        try (have f33_r := fun (W_ : World) (hb_ : Below W8.heap.size W8 W_) => cell_later hb_ f33)
        try (have f34_r := fun (W_ : World) (hb_ : Below W8.heap.size W8 W_) => cell_later hb_ f34)
        refine wp_region_phc (fun W_ => Below W8.heap.size W8 W_) [.P 0, .P 1, .P 3, .P 4, .P 5, .P 6, .P 7, .P 8, .P 9, .P 10, .P 13, .P 14, .P 15, .P 16, .P 17, .P 18, .P 19, .P 20, .S 2, .S 11, .S 12, .S 21, .S 22, .S 23] (by kernel_rfl) (by kernel_rfl) ((Dr.one W8).below _) ?_
        repeat (refine wpCs_P rfl rfl (fun K hK => ?_); apply Exists.intro; refine ⟨fun W_ hb_ => ?_, hK _ ?_⟩; ((try have f21_q := f21_r W_ hb_); (try have f22_q := f22_r W_ hb_); (try have f23_q := f23_r W_ hb_); (try have f31_q := f31_r W_ hb_); (try have f32_q := f32_r W_ hb_); (try have f33_q := f33_r W_ hb_); (try have f34_q := f34_r W_ hb_); go_simp; try rfl); clear hK K)
        refine wpCs_S rfl (fun Q' hQ' hL' => ?_)
        go_wp2_with fail
        refine (HC12.out (World.drew W8) ((Dr.one W8).below _)).mono ?_; rintro e W38 ⟨V39, rfl, ho, hd⟩
        have HPC := Lib.hid (((Dr.one W8).below W8.heap.size).trans (show Below W8.heap.size (World.drew W8) W38 from hd)); clear hd; have hd := HPC.out
        try clear f21_r f22_r f23_r f31_r f32_r f33_r f34_r
        try clear f21 f22 f23 f31 f32 f33 f34
        replace HOA := Lib.hid (HOA.out.callR hd HD.out.size ho); clear ho HC12
        replace HD := Lib.hid (HD.out.trans (hd.mono HD.out.size))
        clear hd
        try go_wp2_with fail
        refine hQ' _ _ HPC.out ?_; clear hQ' hL' Q'
        obtain ⟨A41, cap42, he, _⟩ := HP.open_R HOA.out (List.Mem.head _)
        subst he
        obtain ⟨y36, hy37, hm⟩ := obind HL1.out
        replace HL1 := Lib.hid hm; clear hm
        obtain ⟨b43, o44, A50, cap51, ea45, _, f46, f47, f48, hrr, hrc⟩ := ReadsR.ixc (HP.rd_R HOA.out (List.Mem.head _)) hy37
        cases ea45
        have HR52c := Lib.hid hrc; clear hrc
        try simp only [Nat.zero_add, Nat.add_zero, Int.toNat_natCast, Int.toNat_zero, Int.toNat_one] at f48
        have HR52 := Lib.hid hrr; clear hrr
        try rw [← HP.len_R HOA.out (List.Mem.head _)] at f47
        have HY53 := Lib.hid hy37; clear hy37
        obtain ⟨y54, hy55, hm⟩ := obind HL1.out
        replace HL1 := Lib.hid hm; clear hm
        obtain rfl := Option.some.inj (HY25.out.symm.trans hy55)
        clear hy55
        obtain ⟨y56, hy57, hm⟩ := obind HL1.out
        replace HL1 := Lib.hid hm; clear hm
        obtain rfl := Option.some.inj (HY35.out.symm.trans hy57)
        clear hy57
        obtain ⟨y58, hy59, hm⟩ := obind HL1.out
        replace HL1 := Lib.hid hm; clear hm
        obtain ⟨b60, o61, ea62, _, f63, f64, f65⟩ := ReadsI.ix HR52.out hy59
        cases ea62
        try simp only [Nat.zero_add, Nat.add_zero, Int.toNat_natCast, Int.toNat_zero, Int.toNat_one] at f65
        have HY67 := Lib.hid hy59; clear hy59
        by_cases hc68 : 0 ≤ y58
        · replace HL1 := Lib.hid (ifT hc68 HL1.out)
          have HK69 := Lib.hid hc68
          refine wpCs_S rfl (fun Q' hQ' hL' => ?_)
          go_wp2_with fail
          refine hQ' _ _ HPC.out ?_; clear hQ' hL' Q'
          refine wpCs_S rfl (fun Q' hQ' hL' => ?_)
          go_wp2_with fail
          refine hQ' _ _ HPC.out ?_; clear hQ' hL' Q'
          refine wpCs_S rfl (fun Q' hQ' hL' => ?_)
          go_wp2_with fail
          refine hQ' _ _ HPC.out ?_; clear hQ' hL' Q'
          refine wpCs_S rfl (fun Q' hQ' hL' => ?_)
          go_wp2_with fail
          refine hQ' _ _ HPC.out ?_; clear hQ' hL' Q'
          refine wpCs_S rfl (fun Q' hQ' hL' => ?_)
          go_wp2_with fail
          refine hQ' _ _ HPC.out ?_; clear hQ' hL' Q'
          refine wpCs_nil ?_
          clear HPC
          obtain rfl := Option.some.inj HL1.out
          have hm := HM.out; try dsimp only at hm
          replace HM := Lib.hid hm; clear hm
          obtain rfl := Option.some.inj HM.out
          go_wp2_with fail
          try clear f46 f47 f48 f63 f64 f65
          go_ret
          exact ⟨(by first | rfl | (refine congrArg (fun b => Ending.returned (Value.bool b)) ?_; first | (exact decide_eq_true (by omega)) | (exact decide_eq_false (by omega)) | (have q := hc68; rw [bne_iff_ne] at q ⊢; omega) | (have q := hc68; rw [bne_eq_false_iff_eq] at q ⊢; omega) | (have q := hc68; rw [beq_iff_eq] at q ⊢; omega) | (have q := hc68; rw [beq_eq_false_iff_ne] at q ⊢; omega) | exact hc68 | (rw [hc68]; rfl))), HD.out⟩
        · replace HL1 := Lib.hid (ifF hc68 HL1.out)
          have hc68d := decide_eq_false hc68
          have HK69 := Lib.hid hc68
          refine wpCs_S rfl (fun Q' hQ' hL' => ?_)
          go_wp2_with fail
          refine hQ' _ _ HPC.out ?_; clear hQ' hL' Q'
          refine wpCs_S rfl (fun Q' hQ' hL' => ?_)
          go_wp2_with fail
          refine hQ' _ _ HPC.out ?_; clear hQ' hL' Q'
          refine wpCs_S rfl (fun Q' hQ' hL' => ?_)
          go_wp2_with fail
          refine hQ' _ _ HPC.out ?_; clear hQ' hL' Q'
          refine wpCs_S rfl (fun Q' hQ' hL' => ?_)
          go_wp2_with fail
          refine hQ' _ _ HPC.out ?_; clear hQ' hL' Q'
          refine wpCs_S rfl (fun Q' hQ' hL' => ?_)
          go_wp2_with fail
          refine hQ' _ _ HPC.out ?_; clear hQ' hL' Q'
          refine wpCs_nil ?_
          clear HPC
          obtain ⟨y70, hy71, hm⟩ := obind HL1.out
          replace HL1 := Lib.hid hm; clear hm
          obtain ⟨b72, o73, ea74, _, f75, f76, f77⟩ := ReadsI.ix (rdI HD.out HR2.out) hy71
          cases ea74
          try simp only [Nat.zero_add, Nat.add_zero, Int.toNat_natCast, Int.toNat_zero, Int.toNat_one] at f77
          have HY79 := Lib.hid hy71; clear hy71
          obtain ⟨y80, hy81, hm⟩ := obind HL1.out
          replace HL1 := Lib.hid hm; clear hm
          obtain ⟨b82, o83, ea84, _, f85, f86, f87, f88⟩ := ReadsL.ix (rdL HD.out HR1.out) hy81
          cases ea84
          try simp only [Nat.zero_add, Nat.add_zero, Int.toNat_natCast, Int.toNat_zero, Int.toNat_one] at f87 f88
          have HY89 := Lib.hid hy81; clear hy81
          obtain ⟨y90, hy91, hm⟩ := obind HL1.out
          replace HL1 := Lib.hid hm; clear hm
          obtain ⟨f92, hy91⟩ := app_some hy91; subst hy91
          have HF95 := Lib.hid f92; clear f92
          go_upto_region 4 with (at_builtin; refine hp_appL _ (.tmp 39) (.tmp 47) 22 Try.underlying22 rfl rfl (L1 := [_]) HOA.out rfl rfl HF95.out HD.out.size ?_; intro V93 W94 hoa hd)
          try clear f46 f47 f48 f63 f64 f65 hc68 hc68d f75 f76 f77 f85 f86 f87 f88
          replace HOA := Lib.hid (show HP W94 w.heap.size [.ro (.slice (some ⟨b43, o44, none⟩) (y13).length cap42) (y13), .fl (owL V93 ((x3 ++ [y80])))] from hoa); clear hoa
          replace HD := Lib.hid (HD.out.trans hd); clear hd
          go_wp2_with fail
          replace HOA := Lib.hid (HOA.out.sub (.cons _ (.cons₂ _ .slnil)))
          go_roundg g1
          case measure => omega
          case rel => exact ⟨(x3 ++ [y80]), (wrap64 (x4 + 1)), V93, rfl, rfl, HD, HOA, HL1⟩
      · replace HL1 := Lib.hid (ifF hc9 HL1.out)
        have hc9d := decide_eq_false hc9
        have HK10 := Lib.hid hc9
        obtain rfl := Option.some.inj HL1.out
        have hm := HM.out; try dsimp only at hm
        replace HM := Lib.hid hm; clear hm
        obtain rfl := Option.some.inj HM.out
        go_wp2_with fail
        go_ret
        exact ⟨(by first | rfl | (refine congrArg (fun b => Ending.returned (Value.bool b)) ?_; first | (exact decide_eq_true (by omega)) | (exact decide_eq_false (by omega)) | (have q := hc9; rw [bne_iff_ne] at q ⊢; omega) | (have q := hc9; rw [bne_eq_false_iff_eq] at q ⊢; omega) | (have q := hc9; rw [beq_iff_eq] at q ⊢; omega) | (have q := hc9; rw [beq_eq_false_iff_ne] at q ⊢; omega) | (have q := hc9d; rw [bne_iff_ne] at q ⊢; omega) | (have q := hc9d; rw [bne_eq_false_iff_eq] at q ⊢; omega) | (have q := hc9d; rw [beq_iff_eq] at q ⊢; omega) | (have q := hc9d; rw [beq_eq_false_iff_ne] at q ⊢; omega) | exact hc9 | (rw [hc9]; rfl) | exact hc9d | (rw [hc9d]; rfl))), HD.out⟩
end Go.Proofs.Ytfabhdadckohdaa
set_option linter.all false
set_option maxRecDepth 100000
namespace Go.Proofs.Ytfabhdadckohdaa
open Go.RowKit
attribute [local go_sem] Oper.semAt_some
def LT_TopForests_L2 (F : Nat) (v0 : Int) (v1 : List (Int × Int)) (v8 : List Int) : Nat → (Bool) → (Int) → Option (Bool × Int)
  | 0, _, _ => none
  | g+1, v9, v10 => if v10 < ((v1).length : Int) then (if v9 = true then (R1_Has F (v8) (v10)).bind fun y13 => if y13 = true then some true else (R1_Behind F (v8) (v10)).bind fun y14 => (LT_forest F (v0) (v1) (y14)).bind fun y15 => if y15 = true then some false else some true else some false).bind fun b12 => LT_TopForests_L2 F v0 v1 v8 g (b12) ((wrap64 (v10 + 1))) else some (v9, v10)
theorem LT_TopForests_L2_0 (F : Nat) (v0 : Int) (v1 : List (Int × Int)) (v8 : List Int) (v9 : Bool) (v10 : Int) : LT_TopForests_L2 F v0 v1 v8 0 v9 v10 = none := by rw [LT_TopForests_L2]
theorem LT_TopForests_L2_s (F g : Nat) (v0 : Int) (v1 : List (Int × Int)) (v8 : List Int) (v9 : Bool) (v10 : Int) : LT_TopForests_L2 F v0 v1 v8 (g+1) v9 v10 = (if v10 < ((v1).length : Int) then (if v9 = true then (R1_Has F (v8) (v10)).bind fun y13 => if y13 = true then some true else (R1_Behind F (v8) (v10)).bind fun y14 => (LT_forest F (v0) (v1) (y14)).bind fun y15 => if y15 = true then some false else some true else some false).bind fun b12 => LT_TopForests_L2 F v0 v1 v8 g (b12) ((wrap64 (v10 + 1))) else some (v9, v10)) := by rw [LT_TopForests_L2]
def LT_TopForests_L1 (F : Nat) (v0 : Int) (v1 : List (Int × Int)) : Nat → (List (List Int)) → (Int) → Option (List (List Int) × Int)
  | 0, _, _ => none
  | g+1, v6, v7 => (R3_Power F (((v1).length : Int))).bind fun y9 => if v7 < y9 then (R3_Members F (v7)).bind fun y10 => ((LT_forest F (v0) (v1) (y10)).bind fun y11 => if y11 = true then (LT_TopForests_L2 F (v0) (v1) (y10) F (true) (0)).bind fun o16 => (if o16.1 = true then (app v6 y10).bind fun y17 => LT_TopForests_L1 F v0 v1 g (y17) ((wrap64 (v7 + 1))) else LT_TopForests_L1 F v0 v1 g (v6) ((wrap64 (v7 + 1)))) else LT_TopForests_L1 F v0 v1 g (v6) ((wrap64 (v7 + 1)))) else some (v6, v7)
theorem LT_TopForests_L1_0 (F : Nat) (v0 : Int) (v1 : List (Int × Int)) (v6 : List (List Int)) (v7 : Int) : LT_TopForests_L1 F v0 v1 0 v6 v7 = none := by rw [LT_TopForests_L1]
theorem LT_TopForests_L1_s (F g : Nat) (v0 : Int) (v1 : List (Int × Int)) (v6 : List (List Int)) (v7 : Int) : LT_TopForests_L1 F v0 v1 (g+1) v6 v7 = ((R3_Power F (((v1).length : Int))).bind fun y9 => if v7 < y9 then (R3_Members F (v7)).bind fun y10 => ((LT_forest F (v0) (v1) (y10)).bind fun y11 => if y11 = true then (LT_TopForests_L2 F (v0) (v1) (y10) F (true) (0)).bind fun o16 => (if o16.1 = true then (app v6 y10).bind fun y17 => LT_TopForests_L1 F v0 v1 g (y17) ((wrap64 (v7 + 1))) else LT_TopForests_L1 F v0 v1 g (v6) ((wrap64 (v7 + 1)))) else LT_TopForests_L1 F v0 v1 g (v6) ((wrap64 (v7 + 1)))) else some (v6, v7)) := by rw [LT_TopForests_L1]
def LT_TopForests_L3 (F : Nat) (v1 : List (Int × Int)) (v2 : List Int) : Nat → (List (Int × Int × Int)) → (Int) → Option (List (Int × Int × Int) × Int)
  | 0, _, _ => none
  | g+1, v17, v18 => if v18 < ((v1).length : Int) then (ix v1 v18).bind fun y23 => (ix v1 v18).bind fun y24 => (ix v2 v18).bind fun y25 => (app v17 (y23.1, y24.2, (wrap64 (20 - y25)))).bind fun y22 => LT_TopForests_L3 F v1 v2 g (y22) ((wrap64 (v18 + 1))) else some (v17, v18)
theorem LT_TopForests_L3_0 (F : Nat) (v1 : List (Int × Int)) (v2 : List Int) (v17 : List (Int × Int × Int)) (v18 : Int) : LT_TopForests_L3 F v1 v2 0 v17 v18 = none := by rw [LT_TopForests_L3]
theorem LT_TopForests_L3_s (F g : Nat) (v1 : List (Int × Int)) (v2 : List Int) (v17 : List (Int × Int × Int)) (v18 : Int) : LT_TopForests_L3 F v1 v2 (g+1) v17 v18 = (if v18 < ((v1).length : Int) then (ix v1 v18).bind fun y23 => (ix v1 v18).bind fun y24 => (ix v2 v18).bind fun y25 => (app v17 (y23.1, y24.2, (wrap64 (20 - y25)))).bind fun y22 => LT_TopForests_L3 F v1 v2 g (y22) ((wrap64 (v18 + 1))) else some (v17, v18)) := by rw [LT_TopForests_L3]
def LT_TopForests (F : Nat) (v0 : Int) (v1 : List (Int × Int)) (v2 : List Int) : Option (Bool) := (rank_Fair F (2) ([[0], [1]])).bind fun y1 => ((if (y1.2 != 0) = true then some true else if y1.1 = true then some false else some true).bind fun b2 => if b2 = true then some (false) else ((((((R1_Lines F (v0) (v1)).bind fun y7 => if (y7 != 0) = true then some true else if 5 < ((v1).length : Int) then some true else some false).bind fun b6 => if b6 = true then some true else if (((v1).length : Int) == 0) = true then some true else some false).bind fun b5 => if b5 = true then some true else if (((v2).length : Int) != ((v1).length : Int)) = true then some true else some false).bind fun b4 => if b4 = true then some true else (R1_All F (v2) (0) (20)).bind fun y8 => if y8 = true then some false else some true).bind fun b3 => if b3 = true then some (true) else (LT_TopForests_L1 F (v0) (v1) F ([]) (0)).bind fun o18 => (if 24 < ((o18.1).length : Int) then some (true) else (rank_Fair F (((v1).length : Int)) (o18.1)).bind fun y19 => (rank_Greedy F (((v1).length : Int)) (o18.1) (v2)).bind fun y20 => (rank_Best F (((v1).length : Int)) (o18.1) (v2)).bind fun y21 => (LT_TopForests_L3 F (v1) (v2) F ([]) (0)).bind fun o26 => (span_Least F (v0) (o26.1)).bind fun y27 => (((((if (y19.2 == 0) = true then if (y20.2.2 == 0) = true then some true else some false else some false).bind fun b32 => if b32 = true then if (y21.2 == 0) = true then some true else some false else some false).bind fun b31 => if b31 = true then if y19.1 = true then some true else some false else some false).bind fun b30 => if b30 = true then if (y20.2.1 == y21.1) = true then some true else some false else some false).bind fun b29 => if b29 = true then if (y27.2.2 != 0) = true then some true else if (y20.2.1 == (wrap64 ((wrap64 (20 * (wrap64 (v0 - 1)))) - y27.2.1))) = true then some true else some false else some false).bind fun b28 => some (b28))))
set_option maxRecDepth 100000 in
set_option maxHeartbeats 4000000 in
theorem LT_TopForests_ok {F : Nat} {v0 : Int} {v1 : List (Int × Int)} {A1 : Option Addr} {v2 : List Int} {A2 : Option Addr} {r : Bool} (w : World) (cap1 : Nat) (hr1 : ReadsL w w.heap.size A1 v1) (cap2 : Nat) (hr2 : ReadsI w w.heap.size A2 v2) (h : LT_TopForests F v0 v1 v2 = some r) :
    Calls Try.prog 4 #[.int .i64 v0, .slice A1 v1.length cap1, .slice A2 v2.length cap2] w fun e w' => e = .returned (.bool r) ∧ Below w.heap.size w w' := by
  have HR1 := Lib.hid hr1; clear hr1
  have HR2 := Lib.hid hr2; clear hr2
  have HD := Lib.hid (Below.refl w.heap.size w)
  have HOA := Lib.hid (HP.nil (W := w) (B := w.heap.size))
  unfold LT_TopForests at h
  have HM := Lib.hid h; clear h
  go_enter Try.func4, Try.ntmps4
  have hd : Below w.heap.size w (World.alloc w (.cells #[Value.int .i64 (0)] 3)) := (Below.refl _ _).alloc (Nat.le_refl _) _
  have ho : (owI (.slice (some ⟨w.heap.size, 0, none⟩) 1 1) [0]).ok (World.alloc w (.cells #[Value.int .i64 (0)] 3)) w.heap.size := litI_ok w [0] (by unfold maxLen; simp)
  replace HOA := Lib.hid (HOA.out.call hd HD.out.size ho); clear ho
  replace HD := Lib.hid (HD.out.trans (hd.mono HD.out.size))
  clear hd
  have hd : Below (World.alloc w (.cells #[Value.int .i64 (0)] 3)).heap.size (World.alloc w (.cells #[Value.int .i64 (0)] 3)) (World.alloc (World.alloc w (.cells #[Value.int .i64 (0)] 3)) (.cells #[Value.int .i64 (1)] 3)) := (Below.refl _ _).alloc (Nat.le_refl _) _
  have ho : (owI (.slice (some ⟨(World.alloc w (.cells #[Value.int .i64 (0)] 3)).heap.size, 0, none⟩) 1 1) [1]).ok (World.alloc (World.alloc w (.cells #[Value.int .i64 (0)] 3)) (.cells #[Value.int .i64 (1)] 3)) (World.alloc w (.cells #[Value.int .i64 (0)] 3)).heap.size := litI_ok (World.alloc w (.cells #[Value.int .i64 (0)] 3)) [1] (by unfold maxLen; simp)
  replace HOA := Lib.hid (HOA.out.call hd HD.out.size ho); clear ho
  simp only [World.size_alloc] at HOA
  replace HD := Lib.hid (HD.out.trans (hd.mono HD.out.size))
  clear hd
  replace HOA := Lib.hid (HP.mv (its1 := [_]) HOA.out)
  replace HOA := Lib.hid (show HP _ _ [.fl (owI (.slice (some ⟨w.heap.size, 0, none⟩) 1 1) ([0])), .fl (owI (.slice (some ⟨w.heap.size + 1, 0, none⟩) 1 1) ([1]))] from HOA.out)
  have hd : Below w.heap.size (World.alloc (World.alloc w (.cells #[Value.int .i64 (0)] 3)) (.cells #[Value.int .i64 (1)] 3)) (World.alloc (World.alloc (World.alloc w (.cells #[Value.int .i64 (0)] 3)) (.cells #[Value.int .i64 (1)] 3)) (.cells #[(.slice (some ⟨w.heap.size, 0, none⟩) 1 1), (.slice (some ⟨w.heap.size + 1, 0, none⟩) 1 1)] 23)) := (Below.refl _ _).alloc HD.out.size _
  have hp := HP.litR (rs := [((.slice (some ⟨w.heap.size, 0, none⟩) 1 1), [0]), ((.slice (some ⟨w.heap.size + 1, 0, none⟩) 1 1), [1])]) HOA.out HD.out.size (by unfold maxLen; simp)
  simp only [World.size_alloc] at hp
  replace HOA := Lib.hid (show HP (World.alloc (World.alloc (World.alloc w (.cells #[Value.int .i64 (0)] 3)) (.cells #[Value.int .i64 (1)] 3)) (.cells #[(.slice (some ⟨w.heap.size, 0, none⟩) 1 1), (.slice (some ⟨w.heap.size + 1, 0, none⟩) 1 1)] 23)) w.heap.size [.ro (.slice (some ⟨w.heap.size + 1 + 1, 0, none⟩) 2 2) ([[0], [1]])] from hp); clear hp
  have hd_ : Below (World.alloc (World.alloc w (.cells #[Value.int .i64 (0)] 3)) (.cells #[Value.int .i64 (1)] 3)).heap.size (World.alloc (World.alloc w (.cells #[Value.int .i64 (0)] 3)) (.cells #[Value.int .i64 (1)] 3)) (World.alloc (World.alloc (World.alloc w (.cells #[Value.int .i64 (0)] 3)) (.cells #[Value.int .i64 (1)] 3)) (.cells #[(.slice (some ⟨w.heap.size, 0, none⟩) 1 1), (.slice (some ⟨w.heap.size + 1, 0, none⟩) 1 1)] 23)) := (Below.refl _ _).alloc (Nat.le_refl _) _
  replace HD := Lib.hid (HD.out.trans hd); clear hd hd_
  obtain ⟨⟨y9, y10⟩, hy7, hm⟩ := obind HM.out
  dsimp only at hm
  replace HM := Lib.hid hm; clear hm
  have HC8 := rank_Fair_ok (World.alloc (World.alloc (World.alloc w (.cells #[Value.int .i64 (0)] 3)) (.cells #[Value.int .i64 (1)] 3)) (.cells #[(.slice (some ⟨w.heap.size, 0, none⟩) 1 1), (.slice (some ⟨w.heap.size + 1, 0, none⟩) 1 1)] 23)) 2 (HP.rd_R HOA.out (List.Mem.head _)) hy7
  clear hy7
  try rw [← HP.len_R HOA.out (List.Mem.head _)] at HC8
  replace HC8 := Lib.hid HC8
  go_wp2_with fail
  refine HC8.out.mono ?_; rintro e W11 ⟨rfl, hd⟩
  replace HOA := Lib.hid (HOA.out.below hd)
  replace HD := Lib.hid (HD.out.trans (hd.mono HD.out.size))
  clear hd
  go_upto_region 2 with (fail)
  obtain ⟨b12, hb, hm⟩ := obind HM.out
  replace HM := Lib.hid hm; have HB13 := Lib.hid hb; clear hm hb
  go_cut [37] (fun uq wr => uq = .bool b12 ∧ Hid (Below W11.heap.size W11 wr))
  case first =>
    have HWC14 := Lib.hid (Below.refl W11.heap.size W11)
    by_cases hz15 : y10 = 0
    · subst hz15
      try simp only [errV_zero]
      replace HB13 := Lib.hid (ifF (by decide) HB13.out)
      cases y9
      · replace HB13 := Lib.hid (ifF Bool.false_ne_true HB13.out)
        cases Option.some.inj HB13.out
        try go_wp2_with fail
        go_meet
        case rel => exact ⟨rfl, HWC14⟩
      · replace HB13 := Lib.hid (ifT rfl HB13.out)
        cases Option.some.inj HB13.out
        try go_wp2_with fail
        go_meet
        case rel => exact ⟨rfl, HWC14⟩
    · try rw [errV_pos _ hz15]
      have HZ16 := Lib.hid hz15; clear hz15
      replace HB13 := Lib.hid (ifT (bne_iff_ne.2 HZ16.out) HB13.out)
      cases Option.some.inj HB13.out
      try go_wp2_with fail
      try simp only [← errV_pos _ HZ16.out]
      go_meet
      case rel => exact ⟨rfl, HWC14⟩
  case rest =>
    obtain ⟨rfl, HWC14⟩ := hcut
    rename World => W17
    have hd := HWC14.out
    replace HOA := Lib.hid (HOA.out.below hd)
    replace HD := Lib.hid (HD.out.trans (hd.mono HD.out.size))
    clear hd
    cases b12
    · replace HM := Lib.hid (ifF Bool.false_ne_true HM.out)
      go_upto_region 4 with (fail)
      obtain ⟨b18, hb, hm⟩ := obind HM.out
      replace HM := Lib.hid hm; have HB19 := Lib.hid hb; clear hm hb
      go_cut [63] (fun uq wr => uq = .bool b18 ∧ Hid (Below W17.heap.size W17 wr))
      case first =>
        have HWC20 := Lib.hid (Below.refl W17.heap.size W17)
        obtain ⟨b21, hb, hm⟩ := obind HB19.out
        replace HB19 := Lib.hid hm; have HB22 := Lib.hid hb; clear hm hb
        obtain ⟨b23, hb, hm⟩ := obind HB22.out
        replace HB22 := Lib.hid hm; have HB24 := Lib.hid hb; clear hm hb
        obtain ⟨b25, hb, hm⟩ := obind HB24.out
        replace HB24 := Lib.hid hm; have HB26 := Lib.hid hb; clear hm hb
        obtain ⟨y29, hy27, hm⟩ := obind HB26.out
        replace HB26 := Lib.hid hm; clear hm
        have HC28 := R1_Lines_ok W17 cap1 (rdL HD.out HR1.out) hy27
        clear hy27
        replace HC28 := Lib.hid HC28
        go_wp2_with fail
        refine HC28.out.mono ?_; rintro e W30 ⟨rfl, hd⟩
        replace HOA := Lib.hid (HOA.out.below (hd.below _))
        replace HD := Lib.hid (HD.out.trans ((hd.below _).mono HD.out.size))
        replace HWC20 := Lib.hid (HWC20.out.trans ((hd.below _).mono HWC20.out.size))
        clear hd
        rcases Bool.eq_false_or_eq_true (y29 != 0) with hc31 | hc31
        · replace HB26 := Lib.hid (ifT hc31 HB26.out)
          have HK32 := Lib.hid hc31
          obtain rfl := Option.some.inj HB26.out
          replace HB24 := Lib.hid (ifT (by first | rfl | trivial) HB24.out)
          obtain rfl := Option.some.inj HB24.out
          replace HB22 := Lib.hid (ifT (by first | rfl | trivial) HB22.out)
          obtain rfl := Option.some.inj HB22.out
          replace HB19 := Lib.hid (ifT (by first | rfl | trivial) HB19.out)
          cases Option.some.inj HB19.out
          try go_wp2_with fail
          go_meet
          case rel => exact ⟨rfl, HWC20⟩
        · replace HB26 := Lib.hid (ifF (bF hc31) HB26.out)
          have HK32 := Lib.hid hc31
          by_cases hc33 : 5 < ((v1).length : Int)
          · replace HB26 := Lib.hid (ifT hc33 HB26.out)
            have HK34 := Lib.hid hc33
            have hc33n := hc33; try norm_cast at hc33n
            obtain rfl := Option.some.inj HB26.out
            replace HB24 := Lib.hid (ifT (by first | rfl | trivial) HB24.out)
            obtain rfl := Option.some.inj HB24.out
            replace HB22 := Lib.hid (ifT (by first | rfl | trivial) HB22.out)
            obtain rfl := Option.some.inj HB22.out
            replace HB19 := Lib.hid (ifT (by first | rfl | trivial) HB19.out)
            cases Option.some.inj HB19.out
            try go_wp2_with fail
            go_meet
            case rel => exact ⟨rfl, HWC20⟩
          · replace HB26 := Lib.hid (ifF hc33 HB26.out)
            have hc33d := decide_eq_false hc33
            have HK34 := Lib.hid hc33
            have hc33n := hc33; try norm_cast at hc33n
            obtain rfl := Option.some.inj HB26.out
            replace HB24 := Lib.hid (ifF (by first | exact Bool.false_ne_true | exact not_false) HB24.out)
            rcases Bool.eq_false_or_eq_true (((v1).length : Int) == 0) with hc35 | hc35
            · replace HB24 := Lib.hid (ifT hc35 HB24.out)
              have HK36 := Lib.hid hc35
              obtain rfl := Option.some.inj HB24.out
              replace HB22 := Lib.hid (ifT (by first | rfl | trivial) HB22.out)
              obtain rfl := Option.some.inj HB22.out
              replace HB19 := Lib.hid (ifT (by first | rfl | trivial) HB19.out)
              cases Option.some.inj HB19.out
              try go_wp2_with fail
              go_meet
              case rel => exact ⟨rfl, HWC20⟩
            · replace HB24 := Lib.hid (ifF (bF hc35) HB24.out)
              have HK36 := Lib.hid hc35
              obtain rfl := Option.some.inj HB24.out
              replace HB22 := Lib.hid (ifF (by first | exact Bool.false_ne_true | exact not_false) HB22.out)
              rcases Bool.eq_false_or_eq_true (((v2).length : Int) != ((v1).length : Int)) with hc37 | hc37
              · replace HB22 := Lib.hid (ifT hc37 HB22.out)
                have HK38 := Lib.hid hc37
                obtain rfl := Option.some.inj HB22.out
                replace HB19 := Lib.hid (ifT (by first | rfl | trivial) HB19.out)
                cases Option.some.inj HB19.out
                try go_wp2_with fail
                go_meet
                case rel => exact ⟨rfl, HWC20⟩
              · replace HB22 := Lib.hid (ifF (bF hc37) HB22.out)
                have HK38 := Lib.hid hc37
                obtain rfl := Option.some.inj HB22.out
                replace HB19 := Lib.hid (ifF (by first | exact Bool.false_ne_true | exact not_false) HB19.out)
                obtain ⟨y41, hy39, hm⟩ := obind HB19.out
                replace HB19 := Lib.hid hm; clear hm
                have HC40 := R1_All_ok W30 cap2 (rdI HD.out HR2.out) hy39
                clear hy39
                replace HC40 := Lib.hid HC40
                cases y41
                · replace HB19 := Lib.hid (ifF Bool.false_ne_true HB19.out)
                  cases Option.some.inj HB19.out
                  go_wp2_with fail
                  refine HC40.out.mono ?_; rintro e w' ⟨rfl, rfl⟩
                  try go_wp2_with fail
                  go_meet
                  case rel => exact ⟨rfl, HWC20⟩
                · replace HB19 := Lib.hid (ifT rfl HB19.out)
                  cases Option.some.inj HB19.out
                  go_wp2_with fail
                  refine HC40.out.mono ?_; rintro e w' ⟨rfl, rfl⟩
                  try go_wp2_with fail
                  go_meet
                  case rel => exact ⟨rfl, HWC20⟩
      case rest =>
        obtain ⟨rfl, HWC20⟩ := hcut
        rename World => W42
        have hd := HWC20.out
        replace HOA := Lib.hid (HOA.out.below hd)
        replace HD := Lib.hid (HD.out.trans (hd.mono HD.out.size))
        clear hd
        cases b18
        · replace HM := Lib.hid (ifF Bool.false_ne_true HM.out)
          replace HOA := Lib.hid (show HP _ _ (.ro (.slice none 0 0) ([]) :: _) from HOA.out.pushNilR)
          go_wp2_with fail
          obtain ⟨o44, ho, hm⟩ := obind HM.out
          replace HM := Lib.hid hm; have HL1 := Lib.hid ho; clear hm ho
          replace HOA := Lib.hid (HOA.out.sub (.cons₂ _ (.cons _ .slnil)))
          go_loopg [9, 10] F (fun gg ux47 ux48 wr => ∃ (x45 : List (List Int)) (x46 : Int) (V49 : Value), V49 = ux47 ∧ ux48 = .int .i64 x46 ∧ Hid (Below w.heap.size w wr) ∧ Hid (HP wr w.heap.size [.ro V49 (x45)]) ∧ Hid (LT_TopForests_L1 F (v0) (v1) gg x45 x46 = some o44))
          case atStart => exact ⟨[], 0, (.slice none 0 0), rfl, rfl, HD, HOA, HL1⟩
          case round =>
            obtain ⟨x45, x46, V49, rfl, rfl, HD, HOA, HL1⟩ := hrel
            rename World => W50
            cases gk with
            | zero => exact absurd ((LT_TopForests_L1_0 ..).symm.trans HL1.out) (by intro h; cases h)
            | succ g1 =>
              replace HL1 := Lib.hid ((LT_TopForests_L1_s ..).symm.trans HL1.out)
              obtain ⟨y53, hy51, hm⟩ := obind HL1.out
              replace HL1 := Lib.hid hm; clear hm
              have HC52 := R3_Power_ok W50  hy51
              clear hy51
              replace HC52 := Lib.hid HC52
              by_cases hc54 : x46 < y53
              · replace HL1 := Lib.hid (ifT hc54 HL1.out)
                have HK55 := Lib.hid hc54
                obtain ⟨y58, hy56, hm⟩ := obind HL1.out
                replace HL1 := Lib.hid hm; clear hm
                have HC57 := R3_Members_ok W50  hy56
                clear hy56
                replace HC57 := Lib.hid HC57
                go_wp2_with fail
                refine HC52.out.mono ?_; rintro e w' ⟨rfl, rfl⟩
                go_wp2_with fail
                refine HC57.out.mono ?_; rintro e W59 ⟨V60, rfl, ho, hd⟩
                try clear hc54
                replace HOA := Lib.hid (HOA.out.call hd HD.out.size ho); clear ho
                replace HD := Lib.hid (HD.out.trans (hd.mono HD.out.size))
                clear hd
                obtain ⟨y64, hy62, hm⟩ := obind HL1.out
                replace HL1 := Lib.hid hm; clear hm
                obtain ⟨A65, cap66, he, _⟩ := HP.open_I HOA.out (List.Mem.head _)
                subst he
                have HC63 := LT_forest_ok W59 cap1 (rdL HD.out HR1.out) cap66 (HP.rd_I HOA.out (List.Mem.head _)) hy62
                clear hy62
                replace HC63 := Lib.hid HC63
                go_wp2_with fail
                refine HC63.out.mono ?_; rintro e W67 ⟨rfl, hd⟩
                replace HOA := Lib.hid (HOA.out.below hd)
                replace HD := Lib.hid (HD.out.trans (hd.mono HD.out.size))
                clear hd
                cases y64
                · replace HL1 := Lib.hid (ifF Bool.false_ne_true HL1.out)
                  go_wp2_with fail
                  replace HOA := Lib.hid (HOA.out.sub (.cons _ (.cons₂ _ .slnil)))
                  go_roundg g1
                  case measure => omega
                  case rel => exact ⟨x45, (wrap64 (x46 + 1)), V49, rfl, rfl, HD, HOA, HL1⟩
                · replace HL1 := Lib.hid (ifT rfl HL1.out)
                  go_wp2_with fail
                  obtain ⟨o68, ho, hm⟩ := obind HL1.out
                  replace HL1 := Lib.hid hm; have HL2 := Lib.hid ho; clear hm ho
                  go_loopg [12, 13] F (fun gg ux71 ux72 wr => ∃ (x69 : Bool) (x70 : Int), ux71 = .bool x69 ∧ ux72 = .int .i64 x70 ∧ Hid (Below W67.heap.size W67 wr) ∧ Hid (LT_TopForests_L2 F (v0) (v1) (y58) gg x69 x70 = some o68))
                  case atStart => exact ⟨true, 0, rfl, rfl, (Lib.hid (Below.refl _ _)), HL2⟩
                  case round =>
                    obtain ⟨x69, x70, rfl, rfl, HW2, HL2⟩ := hrel
                    rename World => W73
                    have hd := HW2.out
                    replace HOA := Lib.hid (HOA.out.below hd)
                    replace HD := Lib.hid (HD.out.trans (hd.mono HD.out.size))
                    clear hd
                    cases gk with
                    | zero => exact absurd ((LT_TopForests_L2_0 ..).symm.trans HL2.out) (by intro h; cases h)
                    | succ g2 =>
                      replace HL2 := Lib.hid ((LT_TopForests_L2_s ..).symm.trans HL2.out)
                      by_cases hc74 : x70 < ((v1).length : Int)
                      · replace HL2 := Lib.hid (ifT hc74 HL2.out)
                        have HK75 := Lib.hid hc74
                        obtain ⟨b76, hb, hm⟩ := obind HL2.out
                        replace HL2 := Lib.hid hm; have HB77 := Lib.hid hb; clear hm hb
                        cases x69
                        · replace HB77 := Lib.hid (ifF Bool.false_ne_true HB77.out)
                          obtain rfl := Option.some.inj HB77.out
                          go_wp2_with fail
                          try clear hc74
                          go_roundg g2
                          case measure => omega
                          case rel => exact ⟨false, (wrap64 (x70 + 1)), rfl, rfl, HW2, HL2⟩
                        · replace HB77 := Lib.hid (ifT rfl HB77.out)
                          obtain ⟨y80, hy78, hm⟩ := obind HB77.out
                          replace HB77 := Lib.hid hm; clear hm
                          have HC79 := R1_Has_ok W73 cap66 (HP.rd_I HOA.out (List.Mem.head _)) hy78
                          clear hy78
                          replace HC79 := Lib.hid HC79
                          cases y80
                          · replace HB77 := Lib.hid (ifF Bool.false_ne_true HB77.out)
                            obtain ⟨y83, hy81, hm⟩ := obind HB77.out
                            replace HB77 := Lib.hid hm; clear hm
                            have HC82 := R1_Behind_ok W73 cap66 (HP.rd_I HOA.out (List.Mem.head _)) hy81
                            clear hy81
                            replace HC82 := Lib.hid HC82
                            go_wp2_with fail
                            refine HC79.out.mono ?_; rintro e w' ⟨rfl, rfl⟩
                            go_wp2_with fail
                            refine HC82.out.mono ?_; rintro e W84 ⟨V85, rfl, ho, hd⟩
                            try clear hc74
                            replace HOA := Lib.hid (HOA.out.call hd HD.out.size ho); clear ho
                            replace HD := Lib.hid (HD.out.trans (hd.mono HD.out.size))
                            replace HW2 := Lib.hid (HW2.out.trans (hd.mono HW2.out.size))
                            clear hd
                            obtain ⟨y89, hy87, hm⟩ := obind HB77.out
                            replace HB77 := Lib.hid hm; clear hm
                            obtain ⟨A90, cap91, he, _⟩ := HP.open_I HOA.out (List.Mem.head _)
                            subst he
                            have HC88 := LT_forest_ok W84 cap1 (rdL HD.out HR1.out) cap91 (HP.rd_I HOA.out (List.Mem.head _)) hy87
                            clear hy87
                            replace HC88 := Lib.hid HC88
                            go_wp2_with fail
                            refine HC88.out.mono ?_; rintro e W92 ⟨rfl, hd⟩
                            replace HOA := Lib.hid (HOA.out.below hd)
                            replace HD := Lib.hid (HD.out.trans (hd.mono HD.out.size))
                            replace HW2 := Lib.hid (HW2.out.trans (hd.mono HW2.out.size))
                            clear hd
                            cases y89
                            · replace HB77 := Lib.hid (ifF Bool.false_ne_true HB77.out)
                              obtain rfl := Option.some.inj HB77.out
                              go_wp2_with fail
                              go_roundg g2
                              case measure => omega
                              case rel => exact ⟨true, (wrap64 (x70 + 1)), rfl, rfl, HW2, HL2⟩
                            · replace HB77 := Lib.hid (ifT rfl HB77.out)
                              obtain rfl := Option.some.inj HB77.out
                              go_wp2_with fail
                              go_roundg g2
                              case measure => omega
                              case rel => exact ⟨false, (wrap64 (x70 + 1)), rfl, rfl, HW2, HL2⟩
                          · replace HB77 := Lib.hid (ifT rfl HB77.out)
                            obtain rfl := Option.some.inj HB77.out
                            go_wp2_with fail
                            refine HC79.out.mono ?_; rintro e w' ⟨rfl, rfl⟩
                            go_wp2_with fail
                            try clear hc74
                            go_roundg g2
                            case measure => omega
                            case rel => exact ⟨true, (wrap64 (x70 + 1)), rfl, rfl, HW2, HL2⟩
                      · replace HL2 := Lib.hid (ifF hc74 HL2.out)
                        have hc74d := decide_eq_false hc74
                        have HK75 := Lib.hid hc74
                        obtain rfl := Option.some.inj HL2.out
                        have hm := HL1.out; try dsimp only at hm
                        replace HL1 := Lib.hid hm; clear hm
                        cases x69
                        · replace HL1 := Lib.hid (ifF Bool.false_ne_true HL1.out)
                          go_wp2_with fail
                          try clear hc74 hc74d
                          replace HOA := Lib.hid (HOA.out.sub (.cons _ (.cons₂ _ .slnil)))
                          go_roundg g1
                          case measure => omega
                          case rel => exact ⟨x45, (wrap64 (x46 + 1)), V49, rfl, rfl, HD, HOA, HL1⟩
                        · replace HL1 := Lib.hid (ifT rfl HL1.out)
                          obtain ⟨y93, hy94, hm⟩ := obind HL1.out
                          replace HL1 := Lib.hid hm; clear hm
                          obtain ⟨f95, hy94⟩ := app_some hy94; subst hy94
                          have HF98 := Lib.hid f95; clear f95
                          have hfr := Lib.hid (HP.front (its1 := []) HOA.out)
                          go_upto_region 9 with (at_builtin; refine hp_appR _ (.tmp 100) (.tmp 102) 37 Try.underlying37 rfl rfl (its1 := []) hfr.out rfl rfl HF98.out HD.out.size ?_; intro V96 W97 hoa hd)
                          clear hfr
                          try clear hc74 hc74d
                          replace HOA := Lib.hid (show HP W97 w.heap.size [.ro V96 ((x45 ++ [y58]))] from hoa); clear hoa
                          replace HD := Lib.hid (HD.out.trans hd); clear hd
                          go_wp2_with fail
                          go_roundg g1
                          case measure => omega
                          case rel => exact ⟨(x45 ++ [y58]), (wrap64 (x46 + 1)), V96, rfl, rfl, HD, HOA, HL1⟩
              · replace HL1 := Lib.hid (ifF hc54 HL1.out)
                have hc54d := decide_eq_false hc54
                have HK55 := Lib.hid hc54
                obtain rfl := Option.some.inj HL1.out
                have hm := HM.out; try dsimp only at hm
                replace HM := Lib.hid hm; clear hm
                obtain ⟨A99, cap100, he, _⟩ := HP.open_R HOA.out (List.Mem.head _)
                subst he
                by_cases hc101 : 24 < ((x45).length : Int)
                · replace HM := Lib.hid (ifT hc101 HM.out)
                  have HK102 := Lib.hid hc101
                  have hc101n := hc101; try norm_cast at hc101n
                  obtain rfl := Option.some.inj HM.out
                  go_wp2_with fail
                  refine HC52.out.mono ?_; rintro e w' ⟨rfl, rfl⟩
                  go_wp2_with fail
                  go_ret
                  exact ⟨(by first | rfl | (refine congrArg (fun b => Ending.returned (Value.bool b)) ?_; first | (exact decide_eq_true (by omega)) | (exact decide_eq_false (by omega)) | (have q := hc101; rw [bne_iff_ne] at q ⊢; omega) | (have q := hc101; rw [bne_eq_false_iff_eq] at q ⊢; omega) | (have q := hc101; rw [beq_iff_eq] at q ⊢; omega) | (have q := hc101; rw [beq_eq_false_iff_ne] at q ⊢; omega) | (have q := hc101n; rw [bne_iff_ne] at q ⊢; omega) | (have q := hc101n; rw [bne_eq_false_iff_eq] at q ⊢; omega) | (have q := hc101n; rw [beq_iff_eq] at q ⊢; omega) | (have q := hc101n; rw [beq_eq_false_iff_ne] at q ⊢; omega) | exact hc101 | (rw [hc101]; rfl) | exact hc101n | (rw [hc101n]; rfl))), HD.out⟩
                · replace HM := Lib.hid (ifF hc101 HM.out)
                  have hc101d := decide_eq_false hc101
                  have HK102 := Lib.hid hc101
                  have hc101n := hc101; try norm_cast at hc101n
                  obtain ⟨⟨y105, y106⟩, hy103, hm⟩ := obind HM.out
                  dsimp only at hm
                  replace HM := Lib.hid hm; clear hm
                  have HC104 := rank_Fair_ok W50 cap100 (HP.rd_R HOA.out (List.Mem.head _)) hy103
                  clear hy103
                  replace HC104 := Lib.hid HC104
                  go_wp2_with fail
                  refine HC52.out.mono ?_; rintro e w' ⟨rfl, rfl⟩
                  go_wp2_with fail
                  refine HC104.out.mono ?_; rintro e W107 ⟨rfl, hd⟩
                  try clear hc54 hc54d hc101 hc101n hc101d
                  replace HOA := Lib.hid (HOA.out.below hd)
                  replace HD := Lib.hid (HD.out.trans (hd.mono HD.out.size))
                  clear hd
                  obtain ⟨⟨y110, y111, y112⟩, hy108, hm⟩ := obind HM.out
                  dsimp only at hm
                  replace HM := Lib.hid hm; clear hm
                  have HC109 := rank_Greedy_ok W107 cap100 (HP.rd_R HOA.out (List.Mem.head _)) cap2 (rdI HD.out HR2.out) hy108
                  clear hy108
                  replace HC109 := Lib.hid HC109
                  go_wp2_with fail
                  refine HC109.out.mono ?_; rintro e W113 ⟨V114, rfl, ho, hd⟩
                  replace HOA := Lib.hid (HOA.out.call hd HD.out.size ho); clear ho
                  replace HD := Lib.hid (HD.out.trans (hd.mono HD.out.size))
                  clear hd
                  obtain ⟨⟨y118, y119⟩, hy116, hm⟩ := obind HM.out
                  dsimp only at hm
                  replace HM := Lib.hid hm; clear hm
                  have HC117 := rank_Best_ok W113 cap100 (HP.rd_R HOA.out (List.Mem.tail _ (List.Mem.head _))) cap2 (rdI HD.out HR2.out) hy116
                  clear hy116
                  replace HC117 := Lib.hid HC117
                  go_wp2_with fail
                  refine HC117.out.mono ?_; rintro e W120 ⟨rfl, hd⟩
                  replace HOA := Lib.hid (HOA.out.below hd)
                  replace HD := Lib.hid (HD.out.trans (hd.mono HD.out.size))
                  clear hd
                  replace HOA := Lib.hid (show HP _ _ (.fl (owC (.slice none 0 0) ([])) :: _) from HOA.out.pushNil _ _)
                  go_wp2_with fail
                  obtain ⟨o122, ho, hm⟩ := obind HM.out
                  replace HM := Lib.hid hm; have HL3 := Lib.hid ho; clear hm ho
                  go_loopg [20, 21] F (fun gg ux125 ux126 wr => ∃ (x123 : List (Int × Int × Int)) (x124 : Int) (V127 : Value), V127 = ux125 ∧ ux126 = .int .i64 x124 ∧ Hid (Below w.heap.size w wr) ∧ Hid (HP wr w.heap.size [.fl (owC V127 (x123)), .fl (owI V114 (y110)), .ro (.slice A99 (x45).length cap100) (x45)]) ∧ Hid (LT_TopForests_L3 F (v1) (v2) gg x123 x124 = some o122))
                  case atStart => exact ⟨[], 0, (.slice none 0 0), rfl, rfl, HD, HOA, HL3⟩
                  case round =>
                    obtain ⟨x123, x124, V127, rfl, rfl, HD, HOA, HL3⟩ := hrel
                    rename World => W128
                    cases gk with
                    | zero => exact absurd ((LT_TopForests_L3_0 ..).symm.trans HL3.out) (by intro h; cases h)
                    | succ g3 =>
                      replace HL3 := Lib.hid ((LT_TopForests_L3_s ..).symm.trans HL3.out)
                      by_cases hc129 : x124 < ((v1).length : Int)
                      · replace HL3 := Lib.hid (ifT hc129 HL3.out)
                        have HK130 := Lib.hid hc129
                        try go_wp2_with fail
                        try clear hc129
                        obtain ⟨y131, hy132, hm⟩ := obind HL3.out
                        replace HL3 := Lib.hid hm; clear hm
                        obtain ⟨b133, o134, ea135, _, f136, f137, f138, f139⟩ := ReadsL.ix (rdL HD.out HR1.out) hy132
                        cases ea135
                        try simp only [Nat.zero_add, Nat.add_zero, Int.toNat_natCast, Int.toNat_zero, Int.toNat_one] at f138 f139
                        have HY140 := Lib.hid hy132; clear hy132
                        obtain ⟨y141, hy142, hm⟩ := obind HL3.out
                        replace HL3 := Lib.hid hm; clear hm
                        obtain rfl := Option.some.inj (HY140.out.symm.trans hy142)
                        clear hy142
                        obtain ⟨y143, hy144, hm⟩ := obind HL3.out
                        replace HL3 := Lib.hid hm; clear hm
                        obtain ⟨b145, o146, ea147, _, f148, f149, f150⟩ := ReadsI.ix (rdI HD.out HR2.out) hy144
                        cases ea147
                        try simp only [Nat.zero_add, Nat.add_zero, Int.toNat_natCast, Int.toNat_zero, Int.toNat_one] at f150
                        have HY152 := Lib.hid hy144; clear hy144
                        obtain ⟨y153, hy154, hm⟩ := obind HL3.out
                        replace HL3 := Lib.hid hm; clear hm
                        obtain ⟨f155, hy154⟩ := app_some hy154; subst hy154
                        have HF158 := Lib.hid f155; clear f155
                        have hd1 := Dr.one W128
                        replace HOA := Lib.hid (HOA.out.dr hd1)
                        replace HD := Lib.hid (HD.out.trans (hd1.below _))
                        clear hd1
                        go_region_law (first | (refine hp_appC_st (World.drew W128) (.tmp 137) (.tmp 154) 48 Try.underlying48 rfl rfl (L1 := []) HOA.out (by simp [Act.eval, Act.put]) (by simp [Act.eval, Act.put]) HF158.out HD.out.size ?_; intro g159 cap160 W157 hoa hd; have HOA2 := Lib.hid hoa; have HD2 := Lib.hid hd; clear hoa hd))
                        all_goals
                          try clear f136 f137 f138 f139 f148 f149 f150
                          replace HOA := Lib.hid (show HP W157 w.heap.size [.fl (owC (.slice (some ⟨g159, 0, none⟩) ((x123).length + 1) cap160) ((x123 ++ [(y131.1, y131.2, (wrap64 (20 - y143)))]))), .fl (owI V114 (y110)), .ro (.slice A99 (x45).length cap100) (x45)] from by have q := HOA2.out; (try simp only [i64w] at q); exact q); clear HOA2
                          replace HD := Lib.hid (HD.out.trans HD2.out); clear HD2
                          go_wp2_with fail
                          go_roundg g3
                          case measure => omega
                          case rel => exact ⟨(x123 ++ [(y131.1, y131.2, (wrap64 (20 - y143)))]), (wrap64 (x124 + 1)), (.slice (some ⟨g159, 0, none⟩) ((x123).length + 1) cap160), rfl, rfl, HD, HOA, HL3⟩
                      · replace HL3 := Lib.hid (ifF hc129 HL3.out)
                        have hc129d := decide_eq_false hc129
                        have HK130 := Lib.hid hc129
                        obtain rfl := Option.some.inj HL3.out
                        have hm := HM.out; try dsimp only at hm
                        replace HM := Lib.hid hm; clear hm
                        obtain ⟨⟨y163, y164, y165⟩, hy161, hm⟩ := obind HM.out
                        dsimp only at hm
                        replace HM := Lib.hid hm; clear hm
                        obtain ⟨A166, cap167, he, _⟩ := HP.open_C HOA.out (List.Mem.head _)
                        subst he
                        have HC162 := span_Least_ok W128 cap167 (HP.rd_C HOA.out (List.Mem.head _)) hy161
                        clear hy161
                        replace HC162 := Lib.hid HC162
                        go_wp2_with fail
                        refine HC162.out.mono ?_; rintro e W168 ⟨V169, rfl, ho, hd⟩
                        try clear hc129 hc129d
                        replace HOA := Lib.hid (HOA.out.call hd HD.out.size ho); clear ho
                        replace HD := Lib.hid (HD.out.trans (hd.mono HD.out.size))
                        clear hd
                        obtain ⟨b171, hb, hm⟩ := obind HM.out
                        replace HM := Lib.hid hm; have HB172 := Lib.hid hb; clear hm hb
                        obtain ⟨b173, hb, hm⟩ := obind HB172.out
                        replace HB172 := Lib.hid hm; have HB174 := Lib.hid hb; clear hm hb
                        obtain ⟨b175, hb, hm⟩ := obind HB174.out
                        replace HB174 := Lib.hid hm; have HB176 := Lib.hid hb; clear hm hb
                        obtain ⟨b177, hb, hm⟩ := obind HB176.out
                        replace HB176 := Lib.hid hm; have HB178 := Lib.hid hb; clear hm hb
                        obtain ⟨b179, hb, hm⟩ := obind HB178.out
                        replace HB178 := Lib.hid hm; have HB180 := Lib.hid hb; clear hm hb
                        by_cases hz181 : y106 = 0
                        · subst hz181
                          try simp only [errV_zero]
                          replace HB180 := Lib.hid (ifT (by decide) HB180.out)
                          by_cases hz183 : y112 = 0
                          · subst hz183
                            try simp only [errV_zero]
                            replace HB180 := Lib.hid (ifT (by decide) HB180.out)
                            obtain rfl := Option.some.inj HB180.out
                            replace HB178 := Lib.hid (ifT (by first | rfl | trivial) HB178.out)
                            by_cases hz185 : y119 = 0
                            · subst hz185
                              try simp only [errV_zero]
                              replace HB178 := Lib.hid (ifT (by decide) HB178.out)
                              obtain rfl := Option.some.inj HB178.out
                              replace HB176 := Lib.hid (ifT (by first | rfl | trivial) HB176.out)
                              cases y105
                              · replace HB176 := Lib.hid (ifF Bool.false_ne_true HB176.out)
                                obtain rfl := Option.some.inj HB176.out
                                replace HB174 := Lib.hid (ifF (by first | exact Bool.false_ne_true | exact not_false) HB174.out)
                                obtain rfl := Option.some.inj HB174.out
                                replace HB172 := Lib.hid (ifF (by first | exact Bool.false_ne_true | exact not_false) HB172.out)
                                obtain rfl := Option.some.inj HB172.out
                                obtain rfl := Option.some.inj HM.out
                                go_wp2_with fail
                                go_ret
                                exact ⟨rfl, HD.out⟩
                              · replace HB176 := Lib.hid (ifT rfl HB176.out)
                                obtain rfl := Option.some.inj HB176.out
                                replace HB174 := Lib.hid (ifT (by first | rfl | trivial) HB174.out)
                                rcases Bool.eq_false_or_eq_true (y111 == y118) with hc187 | hc187
                                · replace HB174 := Lib.hid (ifT hc187 HB174.out)
                                  have HK188 := Lib.hid hc187
                                  obtain rfl := Option.some.inj HB174.out
                                  replace HB172 := Lib.hid (ifT (by first | rfl | trivial) HB172.out)
                                  by_cases hz189 : y165 = 0
                                  · subst hz189
                                    try simp only [errV_zero]
                                    replace HB172 := Lib.hid (ifF (by decide) HB172.out)
                                    rcases Bool.eq_false_or_eq_true (y111 == (wrap64 ((wrap64 (20 * (wrap64 (v0 - 1)))) - y164))) with hc191 | hc191
                                    · replace HB172 := Lib.hid (ifT hc191 HB172.out)
                                      have HK192 := Lib.hid hc191
                                      obtain rfl := Option.some.inj HB172.out
                                      obtain rfl := Option.some.inj HM.out
                                      go_wp2_with fail
                                      go_ret
                                      exact ⟨(by first | rfl | (refine congrArg (fun b => Ending.returned (Value.bool b)) ?_; first | (exact decide_eq_true (by omega)) | (exact decide_eq_false (by omega)) | (have q := hc187; rw [bne_iff_ne] at q ⊢; omega) | (have q := hc187; rw [bne_eq_false_iff_eq] at q ⊢; omega) | (have q := hc187; rw [beq_iff_eq] at q ⊢; omega) | (have q := hc187; rw [beq_eq_false_iff_ne] at q ⊢; omega) | (have q := hc191; rw [bne_iff_ne] at q ⊢; omega) | (have q := hc191; rw [bne_eq_false_iff_eq] at q ⊢; omega) | (have q := hc191; rw [beq_iff_eq] at q ⊢; omega) | (have q := hc191; rw [beq_eq_false_iff_ne] at q ⊢; omega) | exact hc187 | (rw [hc187]; rfl) | exact hc191 | (rw [hc191]; rfl))), HD.out⟩
                                    · replace HB172 := Lib.hid (ifF (bF hc191) HB172.out)
                                      have HK192 := Lib.hid hc191
                                      obtain rfl := Option.some.inj HB172.out
                                      obtain rfl := Option.some.inj HM.out
                                      go_wp2_with fail
                                      go_ret
                                      exact ⟨(by first | rfl | (refine congrArg (fun b => Ending.returned (Value.bool b)) ?_; first | (exact decide_eq_true (by omega)) | (exact decide_eq_false (by omega)) | (have q := hc187; rw [bne_iff_ne] at q ⊢; omega) | (have q := hc187; rw [bne_eq_false_iff_eq] at q ⊢; omega) | (have q := hc187; rw [beq_iff_eq] at q ⊢; omega) | (have q := hc187; rw [beq_eq_false_iff_ne] at q ⊢; omega) | (have q := hc191; rw [bne_iff_ne] at q ⊢; omega) | (have q := hc191; rw [bne_eq_false_iff_eq] at q ⊢; omega) | (have q := hc191; rw [beq_iff_eq] at q ⊢; omega) | (have q := hc191; rw [beq_eq_false_iff_ne] at q ⊢; omega) | exact hc187 | (rw [hc187]; rfl) | exact hc191 | (rw [hc191]; rfl))), HD.out⟩
                                  · try rw [errV_pos _ hz189]
                                    have HZ190 := Lib.hid hz189; clear hz189
                                    replace HB172 := Lib.hid (ifT (bne_iff_ne.2 HZ190.out) HB172.out)
                                    obtain rfl := Option.some.inj HB172.out
                                    obtain rfl := Option.some.inj HM.out
                                    go_wp2_with fail
                                    go_ret
                                    exact ⟨(by first | rfl | (refine congrArg (fun b => Ending.returned (Value.bool b)) ?_; first | (exact decide_eq_true (by omega)) | (exact decide_eq_false (by omega)) | (have q := hc187; rw [bne_iff_ne] at q ⊢; omega) | (have q := hc187; rw [bne_eq_false_iff_eq] at q ⊢; omega) | (have q := hc187; rw [beq_iff_eq] at q ⊢; omega) | (have q := hc187; rw [beq_eq_false_iff_ne] at q ⊢; omega) | exact hc187 | (rw [hc187]; rfl))), HD.out⟩
                                · replace HB174 := Lib.hid (ifF (bF hc187) HB174.out)
                                  have HK188 := Lib.hid hc187
                                  obtain rfl := Option.some.inj HB174.out
                                  replace HB172 := Lib.hid (ifF (by first | exact Bool.false_ne_true | exact not_false) HB172.out)
                                  obtain rfl := Option.some.inj HB172.out
                                  obtain rfl := Option.some.inj HM.out
                                  go_wp2_with fail
                                  go_ret
                                  exact ⟨(by first | rfl | (refine congrArg (fun b => Ending.returned (Value.bool b)) ?_; first | (exact decide_eq_true (by omega)) | (exact decide_eq_false (by omega)) | (have q := hc187; rw [bne_iff_ne] at q ⊢; omega) | (have q := hc187; rw [bne_eq_false_iff_eq] at q ⊢; omega) | (have q := hc187; rw [beq_iff_eq] at q ⊢; omega) | (have q := hc187; rw [beq_eq_false_iff_ne] at q ⊢; omega) | exact hc187 | (rw [hc187]; rfl))), HD.out⟩
                            · try rw [errV_pos _ hz185]
                              have HZ186 := Lib.hid hz185; clear hz185
                              replace HB178 := Lib.hid (ifF (fun h => HZ186.out (eq_of_beq h)) HB178.out)
                              obtain rfl := Option.some.inj HB178.out
                              replace HB176 := Lib.hid (ifF (by first | exact Bool.false_ne_true | exact not_false) HB176.out)
                              obtain rfl := Option.some.inj HB176.out
                              replace HB174 := Lib.hid (ifF (by first | exact Bool.false_ne_true | exact not_false) HB174.out)
                              obtain rfl := Option.some.inj HB174.out
                              replace HB172 := Lib.hid (ifF (by first | exact Bool.false_ne_true | exact not_false) HB172.out)
                              obtain rfl := Option.some.inj HB172.out
                              obtain rfl := Option.some.inj HM.out
                              go_wp2_with fail
                              go_ret
                              exact ⟨rfl, HD.out⟩
                          · try rw [errV_pos _ hz183]
                            have HZ184 := Lib.hid hz183; clear hz183
                            replace HB180 := Lib.hid (ifF (fun h => HZ184.out (eq_of_beq h)) HB180.out)
                            obtain rfl := Option.some.inj HB180.out
                            replace HB178 := Lib.hid (ifF (by first | exact Bool.false_ne_true | exact not_false) HB178.out)
                            obtain rfl := Option.some.inj HB178.out
                            replace HB176 := Lib.hid (ifF (by first | exact Bool.false_ne_true | exact not_false) HB176.out)
                            obtain rfl := Option.some.inj HB176.out
                            replace HB174 := Lib.hid (ifF (by first | exact Bool.false_ne_true | exact not_false) HB174.out)
                            obtain rfl := Option.some.inj HB174.out
                            replace HB172 := Lib.hid (ifF (by first | exact Bool.false_ne_true | exact not_false) HB172.out)
                            obtain rfl := Option.some.inj HB172.out
                            obtain rfl := Option.some.inj HM.out
                            go_wp2_with fail
                            go_ret
                            exact ⟨rfl, HD.out⟩
                        · try rw [errV_pos _ hz181]
                          have HZ182 := Lib.hid hz181; clear hz181
                          replace HB180 := Lib.hid (ifF (fun h => HZ182.out (eq_of_beq h)) HB180.out)
                          obtain rfl := Option.some.inj HB180.out
                          replace HB178 := Lib.hid (ifF (by first | exact Bool.false_ne_true | exact not_false) HB178.out)
                          obtain rfl := Option.some.inj HB178.out
                          replace HB176 := Lib.hid (ifF (by first | exact Bool.false_ne_true | exact not_false) HB176.out)
                          obtain rfl := Option.some.inj HB176.out
                          replace HB174 := Lib.hid (ifF (by first | exact Bool.false_ne_true | exact not_false) HB174.out)
                          obtain rfl := Option.some.inj HB174.out
                          replace HB172 := Lib.hid (ifF (by first | exact Bool.false_ne_true | exact not_false) HB172.out)
                          obtain rfl := Option.some.inj HB172.out
                          obtain rfl := Option.some.inj HM.out
                          go_wp2_with fail
                          go_ret
                          exact ⟨rfl, HD.out⟩
        · replace HM := Lib.hid (ifT rfl HM.out)
          obtain rfl := Option.some.inj HM.out
          go_wp2_with fail
          go_ret
          exact ⟨rfl, HD.out⟩
    · replace HM := Lib.hid (ifT rfl HM.out)
      obtain rfl := Option.some.inj HM.out
      go_wp2_with fail
      go_ret
      exact ⟨rfl, HD.out⟩
end Go.Proofs.Ytfabhdadckohdaa
