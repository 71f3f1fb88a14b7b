import Derived.Test.YtgnbholhgcbhfaaDoorT2
import Derived.Test.YtgnbholhgcbhfaaDoorGR
import Derived.Test.YtgnbholhgcbhfaaDoorAst
set_option linter.all false
set_option maxRecDepth 100000
namespace Go.Proofs.YtgnbholhgcbhfaaDoor
open Go.RowKit
def tree_Name_L1 (F : Nat) (v4 : List Int) (v7 : List Nat) : Nat → (Int) → (List ByteArray) → Option (List ByteArray)
  | 0, _, _ => none
  | g+1, j, v8 => if j < ((v4).length : Int) then (ix v4 j).bind fun y => (tree_name F F (v7) (y) ((-1))).bind fun y4 => (app v8 y4).bind fun y3 => tree_Name_L1 F v4 v7 g (wrap64 (j + 1)) (y3) else some (v8)
theorem tree_Name_L1_0 (F : Nat) (v4 : List Int) (v7 : List Nat) (v8 : List ByteArray) (j : Int) : tree_Name_L1 F v4 v7 0 j v8 = none := by rw [tree_Name_L1]
theorem tree_Name_L1_s (F g : Nat) (v4 : List Int) (v7 : List Nat) (v8 : List ByteArray) (j : Int) : tree_Name_L1 F v4 v7 (g+1) j v8 = (if j < ((v4).length : Int) then (ix v4 j).bind fun y => (tree_name F F (v7) (y) ((-1))).bind fun y4 => (app v8 y4).bind fun y3 => tree_Name_L1 F v4 v7 g (wrap64 (j + 1)) (y3) else some (v8)) := by rw [tree_Name_L1]
def tree_Name (F : Nat) (v0 : Int) (v1 : List (Int × Int)) : Option (ByteArray × Int) := (tree_Middle F (v0) (v1)).bind fun y1 => (if (y1.2.2 != 0) = true then some (((⟨#[]⟩ : ByteArray), y1.2.2)) else (mBeside (v0) (v1)).bind fun y2 => (tree_Name_L1 F (y1.1) (y2) F (0) ([])).bind fun o5 => (slices_MinFunc_string_string F (o5) ((fun z6 z7 => brambleweir_tree_Name_1 F  z6 z7))).bind fun y8 => some ((y8, 0)))
set_option maxRecDepth 100000 in
set_option maxHeartbeats 4000000 in
theorem tree_Name_ok {F : Nat} {v0 : Int} {v1 : List (Int × Int)} {A1 : Option Addr} {r : ByteArray × Int} (w : World) (cap1 : Nat) (hr1 : ReadsL w w.heap.size A1 v1) (h : tree_Name F v0 v1 = some r) :
    Calls Tryd.prog 14 #[.int .i64 v0, .slice A1 v1.length cap1] w fun e w' => e = .returned (.tuple #[(.string r.1), (errV 43 r.2)]) ∧ Below w.heap.size w w' := by
  have HR1 := Lib.hid hr1; clear hr1
  have HD := Lib.hid (Below.refl w.heap.size w)
  have HOA := Lib.hid (HP.nil (W := w) (B := w.heap.size))
  unfold tree_Name at h
  have HM := Lib.hid h; clear h
  go_enter Tryd.func14, Tryd.ntmps14
  obtain ⟨⟨y3, y4, y5⟩, hy1, hm⟩ := obind HM.out
  dsimp only at hm
  replace HM := Lib.hid hm; clear hm
  have HC2 := tree_Middle_ok w cap1 (rdL HD.out HR1.out) hy1
  clear hy1
  replace HC2 := Lib.hid HC2
  go_wp2_with fail
  refine HC2.out.mono ?_; rintro e W6 ⟨V7, rfl, ho, hd⟩
  replace HOA := Lib.hid (HOA.out.call hd HD.out.size ho); clear ho
  replace HD := Lib.hid (HD.out.trans (hd.mono HD.out.size))
  clear hd
  by_cases hz9 : y5 = 0
  · subst hz9
    try simp only [errV_zero]
    replace HM := Lib.hid (ifF (by decide) HM.out)
    obtain ⟨y13, hy11, hm⟩ := obind HM.out
    replace HM := Lib.hid hm; clear hm
    have HC12 := mBeside_ok W6 cap1 (rdL HD.out HR1.out) hy11
    clear hy11
    replace HC12 := Lib.hid HC12
    go_wp2_with fail
    refine HC12.out.mono ?_; rintro e W14 ⟨V15, rfl, ho, hd⟩
    replace HOA := Lib.hid (HOA.out.call hd HD.out.size ho); clear ho
    replace HD := Lib.hid (HD.out.trans (hd.mono HD.out.size))
    clear hd
    replace HOA := Lib.hid (show HP _ _ (.fl (owS (.slice none 0 0) ([])) :: _) from HOA.out.pushNil _ _)
    obtain ⟨A18, cap19, he, _⟩ := HP.open_I HOA.out (List.Mem.tail _ (List.Mem.tail _ (List.Mem.head _)))
    subst he
    go_wp2_with fail
    obtain ⟨o20, ho, hm⟩ := obind HM.out
    replace HM := Lib.hid hm; have HL1 := Lib.hid ho; clear hm ho
    go_loopg [28, 10] F (fun gg uj ux22 wr => ∃ (j24 : Int) (x21 : List ByteArray) (V23 : Value), uj = .int .i64 j24 ∧ V23 = ux22 ∧ Hid (Below w.heap.size w wr) ∧ Hid (HP wr w.heap.size [.fl (owS V23 (x21)), .fl (owM V15 (y13)), .fl (owI (.slice A18 (y3).length cap19) (y3))]) ∧ Hid (tree_Name_L1 F (y3) (y13) gg j24 x21 = some o20))
    case atStart => exact ⟨0, [], (.slice none 0 0), rfl, rfl, HD, HOA, HL1⟩
    case round =>
      obtain ⟨j24, x21, V23, rfl, rfl, HD, HOA, HL1⟩ := hrel
      rename World => W25
      cases gk with
      | zero => exact absurd ((tree_Name_L1_0 ..).symm.trans HL1.out) (by intro h; cases h)
      | succ g1 =>
        replace HL1 := Lib.hid ((tree_Name_L1_s ..).symm.trans HL1.out)
        by_cases hc26 : j24 < ((y3).length : Int)
        · replace HL1 := Lib.hid (ifT hc26 HL1.out)
          have HK27 := Lib.hid hc26
          try rw [← HP.len_I HOA.out (List.Mem.tail _ (List.Mem.tail _ (List.Mem.head _)))] at hc26
          obtain ⟨y28, hy29, hm⟩ := obind HL1.out
          replace HL1 := Lib.hid hm; clear hm
          obtain ⟨b30, o31, ea32, _, f33, f34, f35⟩ := ReadsI.ix (HP.rd_I HOA.out (List.Mem.tail _ (List.Mem.tail _ (List.Mem.head _)))) hy29
          cases ea32
          try simp only [Nat.zero_add, Nat.add_zero, Int.toNat_natCast, Int.toNat_zero, Int.toNat_one] at f35
          try rw [← HP.len_I HOA.out (List.Mem.tail _ (List.Mem.tail _ (List.Mem.head _)))] at f34
          have HY37 := Lib.hid hy29; clear hy29
          obtain ⟨y40, hy38, hm⟩ := obind HL1.out
          replace HL1 := Lib.hid hm; clear hm
          obtain ⟨A41, cap42, he, _⟩ := HP.open_M HOA.out (List.Mem.tail _ (List.Mem.head _))
          subst he
          have HC39 := tree_name_ok _ W25 cap42 (HP.rd_M HOA.out (List.Mem.tail _ (List.Mem.head _))) hy38
          clear hy38
          replace HC39 := Lib.hid HC39
          go_wp2_with fail
          refine HC39.out.mono ?_; rintro e W43 ⟨rfl, hd⟩
          try clear hc26 f33 f34 f35
          replace HOA := Lib.hid (HOA.out.below hd)
          replace HD := Lib.hid (HD.out.trans (hd.mono HD.out.size))
          clear hd
          obtain ⟨y44, hy45, hm⟩ := obind HL1.out
          replace HL1 := Lib.hid hm; clear hm
          obtain ⟨f46, hy45⟩ := app_some hy45; subst hy45
          have HF49 := Lib.hid f46; clear f46
          go_wp2_with (at_builtin; refine hp_appS _ (.tmp 32) (.tmp 36) 55 Tryd.underlying55 rfl rfl (L1 := []) HOA.out rfl rfl HF49.out HD.out.size ?_; intro V47 W48 hoa hd)
          replace HOA := Lib.hid (show HP W48 w.heap.size [.fl (owS V47 ((x21 ++ [y40]))), .fl (owM (.slice A41 (y13).length cap42) (y13)), .fl (owI (.slice (some ⟨b30, o31, none⟩) (y3).length cap19) (y3))] from hoa); clear hoa
          replace HD := Lib.hid (HD.out.trans hd); clear hd
          go_wp2_with fail
          go_roundg g1
          case measure => omega
          case rel => exact ⟨(wrap64 (j24 + 1)), (x21 ++ [y40]), V47, rfl, rfl, HD, HOA, HL1⟩
        · replace HL1 := Lib.hid (ifF hc26 HL1.out)
          have hc26d := decide_eq_false hc26
          have HK27 := Lib.hid hc26
          try rw [← HP.len_I HOA.out (List.Mem.tail _ (List.Mem.tail _ (List.Mem.head _)))] at hc26
          obtain rfl := Option.some.inj HL1.out
          have hm := HM.out; try dsimp only at hm
          replace HM := Lib.hid hm; clear hm
          obtain ⟨y52, hy50, hm⟩ := obind HM.out
          replace HM := Lib.hid hm; clear hm
          obtain ⟨A53, cap54, he, _⟩ := HP.open_S HOA.out (List.Mem.head _)
          subst he
          have HC51 := slices_MinFunc_string_string_ok W25 cap54 (HP.rd_S HOA.out (List.Mem.head _)) 29 #[] (enters_of Tryd.func29 (by kernel_rfl) rfl) (fun W_ x_ y_ b_ hB_ hq_ => (brambleweir_tree_Name_1_ok W_  hq_).mono fun e_ w_ h_ => ⟨h_.1, h_.2 ▸ Below.refl _ _⟩) hy50
          clear hy50
          replace HC51 := Lib.hid HC51
          go_wp2_with fail
          refine HC51.out.mono ?_; rintro e W55 ⟨rfl, hd⟩
          try clear hc26 hc26d
          replace HOA := Lib.hid (HOA.out.below hd)
          replace HD := Lib.hid (HD.out.trans (hd.mono HD.out.size))
          clear hd
          obtain rfl := Option.some.inj HM.out
          go_wp2_with fail
          go_ret2
          exact ⟨rfl, HD.out⟩
  · try rw [errV_pos _ hz9]
    have HZ10 := Lib.hid hz9; clear hz9
    replace HM := Lib.hid (ifT (bne_iff_ne.2 HZ10.out) HM.out)
    obtain rfl := Option.some.inj HM.out
    go_wp2_with fail
    go_ret2
    exact ⟨(by first | (rw [errV_pos _ HZ10.out]; rfl) | rw [errV_pos _ HZ10.out]), HD.out⟩
end Go.Proofs.YtgnbholhgcbhfaaDoor
