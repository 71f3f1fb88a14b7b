import Derived.Test.YtoiidngnlhhanaaCh
import Derived.Test.YtoiidngnlhhanaaBox
set_option linter.all false
set_option maxRecDepth 100000
namespace Go.Proofs.Ytoiidngnlhhanaa
open Go.RowKit
attribute [local go_sem] Oper.semAt_some
def brambleweir_chordal_Peel_1 (F : Nat) (v1000 : List Nat) (v1001 : Nat) (v0 : Int) : Option (Bool) := (chordal_simple F (v1000) (v0) (v1001)).bind fun y1 => some (y1)
set_option maxRecDepth 100000 in
set_option maxHeartbeats 4000000 in
theorem brambleweir_chordal_Peel_1_ok {F : Nat} {v0 : Int} {v1000 : List Nat} {g1000 : Nat} {A1000 : Option Addr} {v1001 : Nat} {g1001 : Nat} {r : Bool} (w : World) (cap1000 : Nat) (hr1000 : ReadsM w w.heap.size A1000 v1000) (hx1000 : w.cell? ⟨g1000, 0, none⟩ = some (.slice A1000 v1000.length cap1000)) (hx1001 : w.cell? ⟨g1001, 0, none⟩ = some (.int .u64 ((v1001 : Nat) : Int))) (h : brambleweir_chordal_Peel_1 F v1000 v1001 v0 = some r) :
    Calls Try.prog 15 #[.int .i64 v0, .pointer (some ⟨g1000, 0, none⟩), .pointer (some ⟨g1001, 0, none⟩)] w fun e w' => e = .returned (.bool r) ∧ Below w.heap.size w w' := by
  have HR1000 := Lib.hid hr1000; clear hr1000
  have HX1000 := Lib.hid hx1000; clear hx1000
  have HX1001 := Lib.hid hx1001; clear hx1001
  have HD := Lib.hid (Below.refl w.heap.size w)
  have HOA := Lib.hid (HP.nil (W := w) (B := w.heap.size))
  unfold brambleweir_chordal_Peel_1 at h
  have HM := Lib.hid h; clear h
  go_enter Try.func15, Try.ntmps15
  have fb1 := (HD.out.cell (p := ⟨g1000, 0, none⟩) (World.block_lt_of_cell? _ _ HX1000.out)).trans HX1000.out
  have fb2 := (HD.out.cell (p := ⟨g1001, 0, none⟩) (World.block_lt_of_cell? _ _ HX1001.out)).trans HX1001.out
  obtain ⟨y5, hy3, hm⟩ := obind HM.out
  replace HM := Lib.hid hm; clear hm
  have HC4 := chordal_simple_ok w cap1000 (rdM HD.out HR1000.out) hy3
  clear hy3
  replace HC4 := Lib.hid HC4
  go_wp2_with fail
  refine HC4.out.mono ?_; rintro e W6 ⟨rfl, hd⟩
  try clear fb1 fb2
  replace HOA := Lib.hid (HOA.out.below hd)
  replace HD := Lib.hid (HD.out.trans (hd.mono HD.out.size))
  clear hd
  obtain rfl := Option.some.inj HM.out
  go_wp2_with fail
  go_ret
  exact ⟨rfl, HD.out⟩
def chordal_Peel_L1 (F : Nat) (v5 : List Nat) : Nat → (List Int) → (Nat) → Option ((List Int × Nat) ⊕ (List Int × Int))
  | 0, _, _ => none
  | g+1, v6, v7 => if (v7 != 0) = true then (sList (v7)).bind fun y4 => (slices_IndexFunc_int_int F (y4) ((fun z5 => brambleweir_chordal_Peel_1 F (v5) (v7) z5))).bind fun y6 => (if y6 < 0 then some (.inr (([], 5))) else (sList (v7)).bind fun y7 => (ix y7 y6).bind fun y8 => (app v6 y8).bind fun y9 => (sWithout (v7) (y8)).bind fun y10 => chordal_Peel_L1 F v5 g (y9) (y10)) else some (.inl (v6, v7))
theorem chordal_Peel_L1_0 (F : Nat) (v5 : List Nat) (v6 : List Int) (v7 : Nat) : chordal_Peel_L1 F v5 0 v6 v7 = none := by rw [chordal_Peel_L1]
theorem chordal_Peel_L1_s (F g : Nat) (v5 : List Nat) (v6 : List Int) (v7 : Nat) : chordal_Peel_L1 F v5 (g+1) v6 v7 = (if (v7 != 0) = true then (sList (v7)).bind fun y4 => (slices_IndexFunc_int_int F (y4) ((fun z5 => brambleweir_chordal_Peel_1 F (v5) (v7) z5))).bind fun y6 => (if y6 < 0 then some (.inr (([], 5))) else (sList (v7)).bind fun y7 => (ix y7 y6).bind fun y8 => (app v6 y8).bind fun y9 => (sWithout (v7) (y8)).bind fun y10 => chordal_Peel_L1 F v5 g (y9) (y10)) else some (.inl (v6, v7))) := by rw [chordal_Peel_L1]
def chordal_Peel (F : Nat) (v0 : Int) (v1 : List (Int × Int)) : Option (List Int × Int) := (mCheck (v0) (v1)).bind fun y1 => (if (y1 != 0) = true then some (([], y1)) else (mBeside (v0) (v1)).bind fun y2 => (sBelow (v0)).bind fun y3 => (chordal_Peel_L1 F (y2) F ([]) (y3)).bind fun o11 => match o11 with | .inr r => some (r) | .inl o11 => some ((o11.1, 0)))
set_option maxRecDepth 100000 in
set_option maxHeartbeats 4000000 in
theorem chordal_Peel_ok {F : Nat} {v0 : Int} {v1 : List (Int × Int)} {A1 : Option Addr} {r : List Int × Int} (w : World) (cap1 : Nat) (hr1 : ReadsL w w.heap.size A1 v1) (h : chordal_Peel F v0 v1 = some r) :
    Calls Try.prog 4 #[.int .i64 v0, .slice A1 v1.length cap1] w (PostG (fun v => (.tuple #[v, (errV 45 r.2)])) (fun v => owI v r.1) w.heap.size w) := by
  have HR1 := Lib.hid hr1; clear hr1
  have HD := Lib.hid (Below.refl w.heap.size w)
  have HOA := Lib.hid (HP.nil (W := w) (B := w.heap.size))
  unfold chordal_Peel at h
  have HM := Lib.hid h; clear h
  go_enter Try.func4, Try.ntmps4
  obtain ⟨y3, hy1, hm⟩ := obind HM.out
  replace HM := Lib.hid hm; clear hm
  have HC2 := mCheck_ok w cap1 (rdL HD.out HR1.out) hy1
  clear hy1
  by_cases hz4 : y3 = 0
  · subst hz4
    rw [errV_zero] at HC2; replace HC2 := Lib.hid HC2
    go_wp2_with fail
    refine HC2.out.mono ?_; rintro e W5 ⟨rfl, hd⟩
    replace HOA := Lib.hid (HOA.out.below hd)
    replace HD := Lib.hid (HD.out.trans (hd.mono HD.out.size))
    clear hd
    replace HM := Lib.hid (ifF (by decide) HM.out)
    obtain ⟨y10, hy8, hm⟩ := obind HM.out
    replace HM := Lib.hid hm; clear hm
    have HC9 := mBeside_ok W5 cap1 (rdL HD.out HR1.out) hy8
    clear hy8
    replace HC9 := Lib.hid HC9
    go_wp2_with fail
    refine HC9.out.mono ?_; rintro e W11 ⟨V12, rfl, ho, hd⟩
    replace HOA := Lib.hid (HOA.out.call hd HD.out.size ho); clear ho
    replace HD := Lib.hid (HD.out.trans (hd.mono HD.out.size))
    clear hd
    obtain ⟨A14, cap15, he, _⟩ := HP.open_M HOA.out (List.Mem.head _)
    subst he
    go_upto_region 5 with (fail)
    have hd : Below W11.heap.size W11 (W11.alloc (.cells #[(.slice A14 (y10).length cap15)] 36)) := (Below.refl _ _).alloc (Nat.le_refl _) _
    have ho := owX_ok W11 36 ((.slice A14 (y10).length cap15))
    generalize hW : World.alloc W11 _ = W16 at *
    clear hW
    replace HOA := Lib.hid (HOA.out.call hd HD.out.size ho); clear ho
    replace HD := Lib.hid (HD.out.trans (hd.mono HD.out.size))
    clear hd
    replace HOA := Lib.hid (show HP _ _ (.fl (owI (.slice none 0 0) ([])) :: _) from HOA.out.pushNil _ _)
    obtain ⟨y21, hy19, hm⟩ := obind HM.out
    replace HM := Lib.hid hm; clear hm
    have HC20 := sBelow_ok W16  hy19
    clear hy19
    replace HC20 := Lib.hid HC20
    go_wp2_with fail
    refine HC20.out.mono ?_; rintro e w' ⟨rfl, rfl⟩
    go_upto_region 7 with (fail)
    have hd : Below W16.heap.size W16 (W16.alloc (.cells #[.int .u64 (((y21) : Nat) : Int)] 39)) := (Below.refl _ _).alloc (Nat.le_refl _) _
    have ho := owX_ok W16 39 (.int .u64 (((y21) : Nat) : Int))
    generalize hW : World.alloc W16 _ = W22 at *
    clear hW
    replace HOA := Lib.hid (HOA.out.call hd HD.out.size ho); clear ho
    replace HD := Lib.hid (HD.out.trans (hd.mono HD.out.size))
    clear hd
    go_wp2_with fail
    obtain ⟨o24, ho, hm⟩ := obind HM.out
    replace HM := Lib.hid hm; have HL1 := Lib.hid ho; clear hm ho
    go_loopg [8, 9] F (fun gg ux27 ux30 wr => ∃ (x25 : List Int) (x26 : Nat) (V28 : Value) (g29 : Nat), V28 = ux27 ∧ ux30 = .pointer (some ⟨g29, 0, none⟩) ∧ Hid (Below w.heap.size w wr) ∧ Hid (HP wr w.heap.size [.fl (owX 39 (some ⟨g29, 0, none⟩) (.int .u64 (((x26) : Nat) : Int))), .fl (owI V28 (x25)), .fl (owX 36 (some ⟨W11.heap.size, 0, none⟩) ((.slice A14 (y10).length cap15))), .fl (owM (.slice A14 (y10).length cap15) (y10))]) ∧ Hid (chordal_Peel_L1 F (y10) gg x25 x26 = some o24))
    case atStart => exact ⟨[], y21, (.slice none 0 0), _, rfl, rfl, HD, HOA, HL1⟩
    case round =>
      obtain ⟨x25, x26, V28, g29, rfl, rfl, HD, HOA, HL1⟩ := hrel
      rename World => W31
      cases gk with
      | zero => exact absurd ((chordal_Peel_L1_0 ..).symm.trans HL1.out) (by intro h; cases h)
      | succ g1 =>
        replace HL1 := Lib.hid ((chordal_Peel_L1_s ..).symm.trans HL1.out)
        have fb32 := HP.bx HOA.out (List.Mem.head _)
        rcases Bool.eq_false_or_eq_true (x26 != 0) with hc33 | hc33
        · replace HL1 := Lib.hid (ifT hc33 HL1.out)
          have HK34 := Lib.hid hc33
          obtain ⟨y37, hy35, hm⟩ := obind HL1.out
          replace HL1 := Lib.hid hm; clear hm
          have HC36 := sList_ok W31  hy35
          clear hy35
          replace HC36 := Lib.hid HC36
          go_wp2_with fail
          refine HC36.out.mono ?_; rintro e W38 ⟨V39, rfl, ho, hd⟩
          try clear fb32 hc33
          replace HOA := Lib.hid (HOA.out.call hd HD.out.size ho); clear ho
          replace HD := Lib.hid (HD.out.trans (hd.mono HD.out.size))
          clear hd
          obtain ⟨y43, hy41, hm⟩ := obind HL1.out
          replace HL1 := Lib.hid hm; clear hm
          obtain ⟨A44, cap45, he, _⟩ := HP.open_I HOA.out (List.Mem.head _)
          subst he
          have HC42 := slices_IndexFunc_int_int_ok W38 cap45 (HP.rd_I HOA.out (List.Mem.head _)) 15 #[.pointer (some ⟨W11.heap.size, 0, none⟩), .pointer (some ⟨g29, 0, none⟩)] (enters_of Try.func15 (by kernel_rfl) rfl) (fun W_ x_ b_ hB_ hq_ => (brambleweir_chordal_Peel_1_ok W_ cap15 (HP.rd_M (HOA.out.below hB_) (List.Mem.tail _ (List.Mem.tail _ (List.Mem.tail _ (List.Mem.tail _ (List.Mem.head _)))))) (HP.bx (HOA.out.below hB_) (List.Mem.tail _ (List.Mem.tail _ (List.Mem.tail _ (List.Mem.head _))))) (HP.bx (HOA.out.below hB_) (List.Mem.tail _ (List.Mem.head _))) hq_).mono fun e_ w_ h_ => h_) hy41
          clear hy41
          replace HC42 := Lib.hid HC42
          go_wp2_with fail
          refine HC42.out.mono ?_; rintro e W46 ⟨rfl, hd⟩
          replace HOA := Lib.hid (HOA.out.below hd)
          replace HD := Lib.hid (HD.out.trans (hd.mono HD.out.size))
          clear hd
          by_cases hc47 : y43 < 0
          · replace HL1 := Lib.hid (ifT hc47 HL1.out)
            have HK48 := Lib.hid hc47
            obtain rfl := Option.some.inj HL1.out
            have hm := HM.out; try dsimp only at hm
            replace HM := Lib.hid hm; clear hm
            obtain rfl := Option.some.inj HM.out
            go_wp2_with fail
            try clear hc47
            go_ret2
            exact ⟨_, rfl, World.ownsRow_nil _ _ _ _, HD.out⟩
          · replace HL1 := Lib.hid (ifF hc47 HL1.out)
            have hc47d := decide_eq_false hc47
            have HK48 := Lib.hid hc47
            have fb49 := HP.bx HOA.out (List.Mem.tail _ (List.Mem.head _))
            obtain ⟨y52, hy50, hm⟩ := obind HL1.out
            replace HL1 := Lib.hid hm; clear hm
            have HC51 := sList_ok W46  hy50
            clear hy50
            replace HC51 := Lib.hid HC51
            go_wp2_with fail
            refine HC51.out.mono ?_; rintro e W53 ⟨V54, rfl, ho, hd⟩
            try clear hc47 hc47d fb49
            replace HOA := Lib.hid (HOA.out.call hd HD.out.size ho); clear ho
            replace HD := Lib.hid (HD.out.trans (hd.mono HD.out.size))
            clear hd
            obtain ⟨A58, cap59, he, _⟩ := HP.open_I HOA.out (List.Mem.head _)
            subst he
            obtain ⟨y56, hy57, hm⟩ := obind HL1.out
            replace HL1 := Lib.hid hm; clear hm
            obtain ⟨b60, o61, ea62, _, f63, f64, f65⟩ := ReadsI.ix (HP.rd_I HOA.out (List.Mem.head _)) hy57
            cases ea62
            try simp only [Nat.zero_add, Nat.add_zero, Int.toNat_natCast, Int.toNat_zero, Int.toNat_one] at f65
            try rw [← HP.len_I HOA.out (List.Mem.head _)] at f64
            have HY67 := Lib.hid hy57; clear hy57
            obtain ⟨y68, hy69, hm⟩ := obind HL1.out
            replace HL1 := Lib.hid hm; clear hm
            obtain ⟨f70, hy69⟩ := app_some hy69; subst hy69
            have HF73 := Lib.hid f70; clear f70
            go_upto_region 13 with (at_builtin; refine hp_appI _ (.tmp 37) (.tmp 39) 23 Try.underlying23 rfl rfl (L1 := [_, _, _]) HOA.out rfl rfl HF73.out HD.out.size ?_; intro V71 W72 hoa hd)
            try clear f63 f64 f65
            replace HOA := Lib.hid (show HP W72 w.heap.size [.fl (owI (.slice (some ⟨b60, o61, none⟩) (y52).length cap59) (y52)), .fl (owI (.slice A44 (y37).length cap45) (y37)), .fl (owX 39 (some ⟨g29, 0, none⟩) (.int .u64 (((x26) : Nat) : Int))), .fl (owI V71 ((x25 ++ [y56]))), .fl (owX 36 (some ⟨W11.heap.size, 0, none⟩) ((.slice A14 (y10).length cap15))), .fl (owM (.slice A14 (y10).length cap15) (y10))] from hoa); clear hoa
            replace HD := Lib.hid (HD.out.trans hd); clear hd
            have fb74 := HP.bx HOA.out (List.Mem.tail _ (List.Mem.tail _ (List.Mem.head _)))
            obtain ⟨y77, hy75, hm⟩ := obind HL1.out
            replace HL1 := Lib.hid hm; clear hm
            have HC76 := sWithout_ok W72  hy75
            clear hy75
            replace HC76 := Lib.hid HC76
            go_wp2_with fail
            refine HC76.out.mono ?_; rintro e w' ⟨rfl, rfl⟩
            obtain ⟨q0, q1, hp, hb⟩ := HP.setBx (its1 := [_, _]) HOA.out (.int .u64 (((y77) : Nat) : Int))
            have HP_ := Lib.hid hp; have HB_ := Lib.hid hb; clear hp hb
            go_upto_region 14 with (fail)
            have hp := HP_.out; have hb := HB_.out; clear HP_ HB_
            generalize hW : World.setCell W72 _ _ = W78 at *
            clear hW
            try clear q0 q1 fb74
            replace HOA := Lib.hid (show HP W78 w.heap.size [.fl (owI (.slice (some ⟨b60, o61, none⟩) (y52).length cap59) (y52)), .fl (owI (.slice A44 (y37).length cap45) (y37)), .fl (owX 39 (some ⟨g29, 0, none⟩) (.int .u64 (((y77) : Nat) : Int))), .fl (owI V71 ((x25 ++ [y56]))), .fl (owX 36 (some ⟨W11.heap.size, 0, none⟩) ((.slice A14 (y10).length cap15))), .fl (owM (.slice A14 (y10).length cap15) (y10))] from hp); clear hp
            replace HD := Lib.hid (HD.out.trans hb); clear hb
            have fb79 := HP.bx HOA.out (List.Mem.tail _ (List.Mem.tail _ (List.Mem.head _)))
            go_wp2_with fail
            have hd : Below W78.heap.size W78 (W78.alloc (.cells #[.int .u64 (((y77) : Nat) : Int)] 39)) := (Below.refl _ _).alloc (Nat.le_refl _) _
            have ho := owX_ok W78 39 (.int .u64 (((y77) : Nat) : Int))
            generalize hW : World.alloc W78 _ = W80 at *
            clear hW
            try clear fb79
            replace HOA := Lib.hid (HOA.out.call hd HD.out.size ho); clear ho
            replace HD := Lib.hid (HD.out.trans (hd.mono HD.out.size))
            clear hd
            replace HOA := Lib.hid (HOA.out.sub (.cons₂ _ (.cons₂ _ (.cons₂ _ (.cons _ (.cons₂ _ (.cons₂ _ (.cons₂ _ .slnil))))))))
            go_wp2_with fail
            replace HOA := Lib.hid (HOA.out.sub (.cons₂ _ (.cons _ (.cons _ (.cons₂ _ (.cons₂ _ (.cons₂ _ .slnil)))))))
            go_roundg g1
            case measure => omega
            case rel => exact ⟨(x25 ++ [y56]), y77, V71, _, rfl, rfl, HD, HOA, HL1⟩
        · replace HL1 := Lib.hid (ifF (bF hc33) HL1.out)
          have HK34 := Lib.hid hc33
          obtain rfl := Option.some.inj HL1.out
          have hm := HM.out; try dsimp only at hm
          replace HM := Lib.hid hm; clear hm
          obtain rfl := Option.some.inj HM.out
          go_wp2_with fail
          try clear fb32 hc33
          go_ret2
          exact ⟨_, rfl, HOA.out.get (List.Mem.tail _ (List.Mem.head _)), HD.out⟩
  · rw [errV_pos _ hz4] at HC2; replace HC2 := Lib.hid HC2
    go_wp2_with fail
    refine HC2.out.mono ?_; rintro e W6 ⟨rfl, hd⟩
    replace HOA := Lib.hid (HOA.out.below hd)
    replace HD := Lib.hid (HD.out.trans (hd.mono HD.out.size))
    clear hd
    have HZ7 := Lib.hid hz4; clear hz4
    replace HM := Lib.hid (ifT (bne_iff_ne.2 HZ7.out) HM.out)
    obtain rfl := Option.some.inj HM.out
    go_wp2_with fail
    go_ret2
    exact ⟨_, (by first | (rw [errV_pos _ HZ7.out]; rfl) | rw [errV_pos _ HZ7.out]), World.ownsRow_nil _ _ _ _, HD.out⟩
end Go.Proofs.Ytoiidngnlhhanaa
