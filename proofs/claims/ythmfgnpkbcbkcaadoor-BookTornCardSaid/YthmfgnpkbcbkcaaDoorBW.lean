import Derived.Test.YthmfgnpkbcbkcaaDoorBP
import Derived.Test.YthmfgnpkbcbkcaaDoorBL
import Derived.Test.YthmfgnpkbcbkcaaDoorBF
import Derived.Test.YthmfgnpkbcbkcaaDoorGL
import Derived.Test.YthmfgnpkbcbkcaaDoorErr
import Derived.Test.YthmfgnpkbcbkcaaDoorBox
import Derived.Test.YthmfgnpkbcbkcaaDoorQB
/- the closed fact -/
set_option linter.all false
set_option maxRecDepth 100000
namespace Go.Proofs.YthmfgnpkbcbkcaaDoor
open Go.RowKit Go.Shelf Pl
theorem dec0 : dec 0 = (⟨#[48]⟩ : ByteArray) := by unfold dec Lib.itoa; rw [if_neg (by decide)]; rw [show Int.toNat 0 = 0 from rfl, Lib.decDigits_one (by omega)]; rfl
theorem dec1 : dec 1 = (⟨#[49]⟩ : ByteArray) := by unfold dec Lib.itoa; rw [if_neg (by decide)]; rw [show Int.toNat 1 = 1 from rfl, Lib.decDigits_one (by omega)]; rfl
theorem fact_text : ∃ t : ByteArray, (joinB newB 0 1).2.1 = (⟨#[106, 32, 48, 32, 49, 32]⟩ : ByteArray) ++ t ∧ 0 < t.size := by
  refine ⟨dec ((bsm (dnW (⟨#[106]⟩ : ByteArray) [0, 1]).data.toList 0 % 9973 : Nat) : Int) ++ (⟨#[10]⟩ : ByteArray), ?_, by rw [ByteArray.size_append, one_size]; omega⟩
  show (⟨#[]⟩ : ByteArray) ++ lineW (dnW (⟨#[106]⟩ : ByteArray) [0, 1]) = _
  have e : dnW (⟨#[106]⟩ : ByteArray) [0, 1] = (⟨#[106, 32, 48, 32, 49]⟩ : ByteArray) := by
    rw [dnW, dnW, dnW, dec0, dec1]; rfl
  unfold lineW
  rw [e]
  generalize dec _ = d
  simp [← ByteArray.append_assoc]
  rfl
def bookFactM : Option Bool := some true
set_option maxHeartbeats 2000000 in
theorem bookFactM_ok {r : Bool} (w : World) (htb : TabC w) (h : bookFactM = some r) :
    Calls Tryd.prog 7 #[] w fun e w' => e = .returned (.bool r) ∧ Below w.heap.size w w' := by
  obtain rfl := Option.some.inj h
  have HTB := Lib.hid htb.at_; clear htb h
  have hj : mJoin newB 0 1 = some (0, joinB newB 0 1) := by
    unfold mJoin; rw [if_pos (by decide), if_pos (by decide), if_neg (by decide), if_neg (by decide)]
  have hm : (joinB newB 0 1).1 = [2, 1, 0, 0, 0, 0, 0, 0] := by decide
  have hf : brambleweir_book_Book_Far 300 (joinB newB 0 1).1 1 0 = some (1, 0) := by rw [hm]; decide +kernel
  have hl : brambleweir_book_Book_Lines 300 (joinB newB 0 1).1 = some [(0, 1)] := by rw [hm]; decide +kernel
  have he : SE_Lines 300 [((0 : Int), (1 : Int))] [(0, 1)] = some true := by decide +kernel
  obtain ⟨t, ht, ht0⟩ := fact_text
  have HJ := Lib.hid hj; have HF := Lib.hid hf; have HL := Lib.hid hl; have HE := Lib.hid he; have HT := Lib.hid ht; have HT0 := Lib.hid ht0
  clear hj hm hf hl he ht ht0
  go_enter Tryd.func7, Tryd.ntmps7
  go_wp2_with fail
  refine (bkNew_ok w).mono ?_; rintro e W1 ⟨g, rfl, h1, hd1⟩
  have HD1 := Lib.hid hd1; have H1 := Lib.hid h1; clear hd1 h1
  have HC := mJoin_ok2 (its1 := []) W1 (HTB.out.go HD1.out) H1.out HD1.out.size HJ.out
  rw [errV_zero] at HC
  replace HC := Lib.hid HC
  go_wp2_with fail
  refine HC.out.mono ?_; rintro e W2 ⟨rfl, h2, hd2⟩
  have HD2 := Lib.hid (HD1.out.trans hd2); have H2 := Lib.hid h2; clear hd2 h2
  have HC2 := brambleweir_book_Book_Far_ok W2 (HP.rdBk (its1 := []) H2.out) HF.out
  dsimp only at HC2
  rw [errV_zero] at HC2
  replace HC2 := Lib.hid HC2
  go_wp2_with fail
  refine HC2.out.mono ?_; rintro e W3 ⟨rfl, hd3⟩
  have H3 := Lib.hid (H2.out.below hd3); have HD3 := Lib.hid (HD2.out.trans (hd3.mono HD2.out.size)); clear hd3
  go_wp2_with fail
  refine (brambleweir_book_Book_Lines_ok W3 (HP.rdBk (its1 := []) H3.out) HL.out).mono ?_; rintro e W4 ⟨V, rfl, ho, hd4⟩
  have H4 := Lib.hid (H3.out.call hd4 HD3.out.size ho); have HD4 := Lib.hid (HD3.out.trans (hd4.mono HD3.out.size)); clear hd4 ho
  obtain ⟨A, cap, he4, hr4⟩ := HP.open_L H4.out (List.Mem.head _)
  subst he4
  have HR4 := Lib.hid hr4; clear hr4
  have hal : Below W4.heap.size W4 (W4.alloc (.cells #[.int .i64 0, .int .i64 1] 49)) := (Below.refl _ _).alloc (Nat.le_refl _) _
  have hlit : ReadsL (W4.alloc (.cells #[.int .i64 0, .int .i64 1] 49)) (W4.alloc (.cells #[.int .i64 0, .int .i64 1] 49)).heap.size (some ⟨W4.heap.size, 0, none⟩) [((0 : Int), (1 : Int))] := by
    refine ⟨rfl, fun _ => ⟨W4.heap.size, 0, rfl, by simp, fun j u hu => ?_⟩⟩
    rw [cell_of_row _ _ _ _ _ _ (heap_alloc_new W4 _)]
    simpa [lineCells] using hu
  have HC5 := Lib.hid (SE_Lines_ok _ cap (rdL hal HR4.out) 1 hlit HE.out)
  have H5 := Lib.hid (H4.out.below hal); have HD5 := Lib.hid (HD4.out.trans (hal.mono HD4.out.size)); clear hal hlit
  go_wp2_with fail
  refine HC5.out.mono ?_; rintro e W6 ⟨rfl, hd6⟩
  have H6 := Lib.hid (H5.out.dr hd6); have HD6 := Lib.hid (HD5.out.trans ((hd6.below _).mono HD5.out.size)); clear hd6
  go_wp2_with fail
  refine (mText_ok (its1 := [_]) W6 H6.out HD6.out.size rfl).mono ?_; rintro e W7 ⟨rfl, h7, hd7⟩
  have H7 := Lib.hid h7; have HD7 := Lib.hid (HD6.out.trans hd7); clear h7 hd7
  have hs6 : (6 : Int) < ((joinB newB 0 1).2.1.size : Int) := by rw [HT.out, ByteArray.size_append]; have := HT0.out; show (6 : Int) < ((6 + t.size : Nat) : Int); omega
  go_wp2_with fail
  refine (mText_ok (its1 := [_]) W7 H7.out HD7.out.size rfl).mono ?_; rintro e W8 ⟨rfl, h8, hd8⟩
  have H8 := Lib.hid h8; have HD8 := Lib.hid (HD7.out.trans hd8); clear h8 hd8
  have he8 : (joinB newB 0 1).2.1.extract 0 6 = (⟨#[106, 32, 48, 32, 49, 32]⟩ : ByteArray) := by
    rw [HT.out]
    apply ByteArray.ext
    simp [ByteArray.data_extract, ByteArray.data_append]
  have hl8 : ((joinB newB 0 1).2.1.extract 0 6).toList = [106, 32, 48, 32, 49, 32] := by rw [he8]; decide +kernel
  have HL8 := Lib.hid hl8; clear he8 hl8
  go_wp2_with fail
  go_ret
  exact ⟨ret_v (congrArg Value.bool (by rw [HL8.out]; decide)), HD8.out⟩
end Go.Proofs.YthmfgnpkbcbkcaaDoor
set_option linter.all false
set_option maxRecDepth 100000
namespace Go.Proofs.YthmfgnpkbcbkcaaDoor
open Go.RowKit
attribute [local go_sem] Oper.semAt_some
def L4_BookBack (F : Nat) (v0 : List (List Int)) (v1 : Int) (v2 : Int) : Option (Bool) := (bookFactM ).bind fun y1 => (if y1 = true then (L4_put F (v0)).bind fun y2 => (brambleweir_book_Book_Lines F ((y2).1)).bind fun y3 => (mJoin (y2) (v1) (v2)).bind fun y4 => (if (y4.1 != 0) = true then (brambleweir_book_Book_Lines F ((y4.2).1)).bind fun y5 => (SE_Lines F (y5) (y3)).bind fun y6 => some (y6) else (brambleweir_book_Book_Far F ((y4.2).1) (v1) (v2)).bind fun y7 => (((if (y7.2 != 0) = true then some true else if (y7.1 != 1) = true then some true else some false).bind fun b9 => if b9 = true then some true else (brambleweir_book_Book_Lines F ((y4.2).1)).bind fun y10 => if ((y10.length : Int) != (wrap64 (((y3).length : Int) + 1))) = true then some true else some false).bind fun b8 => if b8 = true then some (false) else (mCut (y4.2) (v2) (v1)).bind fun y11 => (((mErr (y11.1) (4)).bind fun y14 => if y14 = true then (brambleweir_book_Book_Lines F ((y11.2).1)).bind fun y15 => if ((y15.length : Int) == (wrap64 (((y3).length : Int) + 1))) = true then some true else some false else some false).bind fun b13 => if b13 = true then some true else if (y11.1 == 0) = true then (brambleweir_book_Book_Lines F ((y11.2).1)).bind fun y16 => (SE_Lines F (y16) (y3)).bind fun y17 => if y17 = true then some true else some false else some false).bind fun b12 => some (b12))) else some (false))
set_option maxRecDepth 100000 in
set_option maxHeartbeats 4000000 in
theorem L4_BookBack_ok {F : Nat} {v0 : List (List Int)} {A0 : Option Addr} {v1 : Int} {v2 : Int} {r : Bool} (w : World) (htb : TabC w) (htc : TyCell w) (cap0 : Nat) (hr0 : ReadsR w w.heap.size A0 v0) (h : L4_BookBack F v0 v1 v2 = some r) :
    Calls Tryd.prog 3 #[.slice A0 v0.length cap0, .int .i64 v1, .int .i64 v2] w fun e w' => e = .returned (.bool r) ∧ Below w.heap.size w w' := by
  have HTB := Lib.hid htb; clear htb
  have HTC := Lib.hid htc; clear htc
  have HR0 := Lib.hid hr0; clear hr0
  have HD := Lib.hid (Below.refl w.heap.size w)
  have HOA := Lib.hid (HP.nil (W := w) (B := w.heap.size))
  unfold L4_BookBack at h
  have HM := Lib.hid h; clear h
  go_enter Tryd.func3, Tryd.ntmps3
  obtain ⟨y3, hy1, hm⟩ := obind HM.out
  replace HM := Lib.hid hm; clear hm
  have HC2 := bookFactM_ok w (HTB.out.go (HD.out))  hy1
  clear hy1
  replace HC2 := Lib.hid HC2
  go_wp2_with fail
  refine HC2.out.mono ?_; rintro e W4 ⟨rfl, hd⟩
  replace HOA := Lib.hid (HOA.out.below hd)
  replace HD := Lib.hid (HD.out.trans (hd.mono HD.out.size))
  clear hd
  cases y3
  · replace HM := Lib.hid (ifF Bool.false_ne_true HM.out)
    obtain rfl := Option.some.inj HM.out
    go_wp2_with fail
    go_ret
    exact ⟨rfl, HD.out⟩
  · replace HM := Lib.hid (ifT rfl HM.out)
    obtain ⟨y10, hy7, hm⟩ := obind HM.out
    replace HM := Lib.hid hm; clear hm
    have HC8 := Lib.hid (L4_put_ok W4 (HTB.out.go (HD.out)) cap0 (rdR HD.out HR0.out) hy7); clear hy7
    go_wp2_with fail
    refine HC8.out.mono ?_; rintro e W9 ⟨g11, rfl, ho, hd⟩
    replace HOA := Lib.hid (show HP W9 w.heap.size [(bkI g11 (y10))] from HOA.out.callIt hd HD.out.size ho); clear ho
    replace HD := Lib.hid (HD.out.trans (hd.mono HD.out.size))
    clear hd
    obtain ⟨y15, hy13, hm⟩ := obind HM.out
    replace HM := Lib.hid hm; clear hm
    have HC14 := brambleweir_book_Book_Lines_ok W9 (HP.rdBk (its1 := []) HOA.out) hy13
    clear hy13
    replace HC14 := Lib.hid HC14
    go_wp2_with fail
    refine HC14.out.mono ?_; rintro e W16 ⟨V17, rfl, ho, hd⟩
    replace HOA := Lib.hid (HOA.out.call hd HD.out.size ho); clear ho
    replace HD := Lib.hid (HD.out.trans (hd.mono HD.out.size))
    clear hd
    obtain ⟨⟨y24, z25⟩, hy21, hm⟩ := obind HM.out
    dsimp only at hm
    replace HM := Lib.hid hm; clear hm
    have HC22 := mJoin_ok2 (its1 := [_]) W16 (HTB.out.at_.go HD.out) HOA.out HD.out.size hy21; clear hy21
    by_cases hz26 : y24 = 0
    · subst hz26
      rw [errV_zero] at HC22; replace HC22 := Lib.hid HC22
      go_wp2_with fail
      refine HC22.out.mono ?_; rintro e W23 ⟨rfl, hp, hb⟩
      replace HOA := Lib.hid (show HP W23 w.heap.size [.fl (owL V17 (y15)), (bkI g11 (z25))] from hp); clear hp
      replace HD := Lib.hid (HD.out.trans hb); clear hb
      replace HM := Lib.hid (ifF (by decide) HM.out)
      obtain ⟨⟨y30, y31⟩, hy28, hm⟩ := obind HM.out
      dsimp only at hm
      replace HM := Lib.hid hm; clear hm
      have HC29 := brambleweir_book_Book_Far_ok W23 (HP.rdBk (its1 := [_]) HOA.out) hy28
      clear hy28
      replace HC29 := Lib.hid HC29
      go_wp2_with fail
      refine HC29.out.mono ?_; rintro e W32 ⟨rfl, hd⟩
      replace HOA := Lib.hid (HOA.out.below hd)
      replace HD := Lib.hid (HD.out.trans (hd.mono HD.out.size))
      clear hd
      go_upto_region 9 with (fail)
      obtain ⟨b33, hb, hm⟩ := obind HM.out
      replace HM := Lib.hid hm; have HB34 := Lib.hid hb; clear hm hb
      go_cut [49] (fun uq wr => uq = .bool b33 ∧ Hid (Below W32.heap.size W32 wr))
      case first =>
        have HWC35 := Lib.hid (Below.refl W32.heap.size W32)
        obtain ⟨b36, hb, hm⟩ := obind HB34.out
        replace HB34 := Lib.hid hm; have HB37 := Lib.hid hb; clear hm hb
        by_cases hz38 : y31 = 0
        · subst hz38
          try simp only [errV_zero]
          replace HB37 := Lib.hid (ifF (by decide) HB37.out)
          rcases Bool.eq_false_or_eq_true (y30 != 1) with hc40 | hc40
          · replace HB37 := Lib.hid (ifT hc40 HB37.out)
            have HK41 := Lib.hid hc40
            obtain rfl := Option.some.inj HB37.out
            replace HB34 := Lib.hid (ifT (by first | rfl | trivial) HB34.out)
            cases Option.some.inj HB34.out
            try go_wp2_with fail
            go_meet
            case rel => exact ⟨rfl, HWC35⟩
          · replace HB37 := Lib.hid (ifF (bF hc40) HB37.out)
            have HK41 := Lib.hid hc40
            obtain rfl := Option.some.inj HB37.out
            replace HB34 := Lib.hid (ifF (by first | exact Bool.false_ne_true | exact not_false) HB34.out)
            obtain ⟨y44, hy42, hm⟩ := obind HB34.out
            replace HB34 := Lib.hid hm; clear hm
            have HC43 := brambleweir_book_Book_Lines_ok W32 (HP.rdBk (its1 := [_]) HOA.out) hy42
            clear hy42
            replace HC43 := Lib.hid HC43
            go_wp2_with fail
            refine HC43.out.mono ?_; rintro e W45 ⟨V46, rfl, ho, hd⟩
            try clear hc40
            replace HOA := Lib.hid (HOA.out.call hd HD.out.size ho); clear ho
            replace HD := Lib.hid (HD.out.trans (hd.mono HD.out.size))
            replace HWC35 := Lib.hid (HWC35.out.trans (hd.mono HWC35.out.size))
            clear hd
            obtain ⟨A48, cap49, he, _⟩ := HP.open_L HOA.out (List.Mem.head _)
            subst he
            obtain ⟨A50, cap51, he, _⟩ := HP.open_L HOA.out (List.Mem.tail _ (List.Mem.head _))
            subst he
            rcases Bool.eq_false_or_eq_true (((y44).length : Int) != (wrap64 (((y15).length : Int) + 1))) with hc52 | hc52
            · replace HB34 := Lib.hid (ifT hc52 HB34.out)
              have HK53 := Lib.hid hc52
              cases Option.some.inj HB34.out
              try go_wp2_with fail
              go_meet
              case rel => exact ⟨rfl, HWC35⟩
            · replace HB34 := Lib.hid (ifF (bF hc52) HB34.out)
              have HK53 := Lib.hid hc52
              cases Option.some.inj HB34.out
              try go_wp2_with fail
              go_meet
              case rel => exact ⟨rfl, HWC35⟩
        · try rw [errV_pos _ hz38]
          have HZ39 := Lib.hid hz38; clear hz38
          replace HB37 := Lib.hid (ifT (bne_iff_ne.2 HZ39.out) HB37.out)
          obtain rfl := Option.some.inj HB37.out
          replace HB34 := Lib.hid (ifT (by first | rfl | trivial) HB34.out)
          cases Option.some.inj HB34.out
          try go_wp2_with fail
          try simp only [← errV_pos _ HZ39.out]
          go_meet
          case rel => exact ⟨rfl, HWC35⟩
      case rest =>
        obtain ⟨rfl, HWC35⟩ := hcut
        rename World => W54
        have hd := HWC35.out
        replace HOA := Lib.hid (HOA.out.below hd)
        replace HD := Lib.hid (HD.out.trans (hd.mono HD.out.size))
        clear hd
        cases b33
        · replace HM := Lib.hid (ifF Bool.false_ne_true HM.out)
          obtain ⟨⟨y60, z61⟩, hy57, hm⟩ := obind HM.out
          dsimp only at hm
          replace HM := Lib.hid hm; clear hm
          have HC58 := mCut_ok2 (its1 := [_]) W54 (HTB.out.at_.go HD.out) HOA.out HD.out.size hy57; clear hy57
          replace HC58 := Lib.hid HC58
          go_wp2_with fail
          refine HC58.out.mono ?_; rintro e W59 ⟨rfl, hp, hb⟩
          replace HOA := Lib.hid (show HP W59 w.heap.size [.fl (owL V17 (y15)), (bkI g11 (z61))] from hp); clear hp
          replace HD := Lib.hid (HD.out.trans hb); clear hb
          obtain ⟨b62, hb, hm⟩ := obind HM.out
          replace HM := Lib.hid hm; have HB63 := Lib.hid hb; clear hm hb
          obtain ⟨b64, hb, hm⟩ := obind HB63.out
          replace HB63 := Lib.hid hm; have HB65 := Lib.hid hb; clear hm hb
          obtain ⟨y68, hy66, hm⟩ := obind HB65.out
          replace HB65 := Lib.hid hm; clear hm
          have HC67 := mErr_ok W59 (HTC.out.go (HD.out))  hy66
          clear hy66
          replace HC67 := Lib.hid HC67
          go_wp2_with fail
          refine HC67.out.mono ?_; rintro e W69 ⟨rfl, hd⟩
          replace HOA := Lib.hid (HOA.out.below hd)
          replace HD := Lib.hid (HD.out.trans (hd.mono HD.out.size))
          clear hd
          cases y68
          · replace HB65 := Lib.hid (ifF Bool.false_ne_true HB65.out)
            obtain rfl := Option.some.inj HB65.out
            replace HB63 := Lib.hid (ifF (by first | exact Bool.false_ne_true | exact not_false) HB63.out)
            by_cases hz70 : y60 = 0
            · subst hz70
              try simp only [errV_zero]
              replace HB63 := Lib.hid (ifT (by decide) HB63.out)
              obtain ⟨y74, hy72, hm⟩ := obind HB63.out
              replace HB63 := Lib.hid hm; clear hm
              have HC73 := brambleweir_book_Book_Lines_ok W69 (HP.rdBk (its1 := [_]) HOA.out) hy72
              clear hy72
              replace HC73 := Lib.hid HC73
              go_wp2_with fail
              refine HC73.out.mono ?_; rintro e W75 ⟨V76, rfl, ho, hd⟩
              replace HOA := Lib.hid (HOA.out.call hd HD.out.size ho); clear ho
              replace HD := Lib.hid (HD.out.trans (hd.mono HD.out.size))
              clear hd
              obtain ⟨y80, hy78, hm⟩ := obind HB63.out
              replace HB63 := Lib.hid hm; clear hm
              obtain ⟨A81, cap82, he, _⟩ := HP.open_L HOA.out (List.Mem.head _)
              subst he
              obtain ⟨A83, cap84, he, _⟩ := HP.open_L HOA.out (List.Mem.tail _ (List.Mem.head _))
              subst he
              have HC79 := SE_Lines_ok W75 cap82 (HP.rd_L HOA.out (List.Mem.head _)) cap84 (HP.rd_L HOA.out (List.Mem.tail _ (List.Mem.head _))) hy78
              clear hy78
              replace HC79 := Lib.hid HC79
              go_wp2_with fail
              refine HC79.out.mono ?_; rintro e W85 ⟨rfl, hd⟩
              replace HOA := Lib.hid (HOA.out.below (hd.below _))
              replace HD := Lib.hid (HD.out.trans ((hd.below _).mono HD.out.size))
              clear hd
              cases y80
              · replace HB63 := Lib.hid (ifF Bool.false_ne_true HB63.out)
                obtain rfl := Option.some.inj HB63.out
                obtain rfl := Option.some.inj HM.out
                go_wp2_with fail
                go_ret
                exact ⟨rfl, HD.out⟩
              · replace HB63 := Lib.hid (ifT rfl HB63.out)
                obtain rfl := Option.some.inj HB63.out
                obtain rfl := Option.some.inj HM.out
                go_wp2_with fail
                go_ret
                exact ⟨rfl, HD.out⟩
            · try rw [errV_pos _ hz70]
              have HZ71 := Lib.hid hz70; clear hz70
              replace HB63 := Lib.hid (ifF (fun h => HZ71.out (eq_of_beq h)) HB63.out)
              obtain rfl := Option.some.inj HB63.out
              obtain rfl := Option.some.inj HM.out
              go_wp2_with fail
              go_ret
              exact ⟨rfl, HD.out⟩
          · replace HB65 := Lib.hid (ifT rfl HB65.out)
            obtain ⟨y88, hy86, hm⟩ := obind HB65.out
            replace HB65 := Lib.hid hm; clear hm
            have HC87 := brambleweir_book_Book_Lines_ok W69 (HP.rdBk (its1 := [_]) HOA.out) hy86
            clear hy86
            replace HC87 := Lib.hid HC87
            go_wp2_with fail
            refine HC87.out.mono ?_; rintro e W89 ⟨V90, rfl, ho, hd⟩
            replace HOA := Lib.hid (HOA.out.call hd HD.out.size ho); clear ho
            replace HD := Lib.hid (HD.out.trans (hd.mono HD.out.size))
            clear hd
            obtain ⟨A92, cap93, he, _⟩ := HP.open_L HOA.out (List.Mem.head _)
            subst he
            obtain ⟨A94, cap95, he, _⟩ := HP.open_L HOA.out (List.Mem.tail _ (List.Mem.head _))
            subst he
            rcases Bool.eq_false_or_eq_true (((y88).length : Int) == (wrap64 (((y15).length : Int) + 1))) with hc96 | hc96
            · replace HB65 := Lib.hid (ifT hc96 HB65.out)
              have HK97 := Lib.hid hc96
              obtain rfl := Option.some.inj HB65.out
              replace HB63 := Lib.hid (ifT (by first | rfl | trivial) HB63.out)
              obtain rfl := Option.some.inj HB63.out
              obtain rfl := Option.some.inj HM.out
              go_wp2_with fail
              go_ret
              exact ⟨(by first | rfl | (refine congrArg (fun b => Ending.returned (Value.bool b)) ?_; first | (exact decide_eq_true (by omega)) | (exact decide_eq_false (by omega)) | (have q := hc96; rw [bne_iff_ne] at q ⊢; omega) | (have q := hc96; rw [bne_eq_false_iff_eq] at q ⊢; omega) | (have q := hc96; rw [beq_iff_eq] at q ⊢; omega) | (have q := hc96; rw [beq_eq_false_iff_ne] at q ⊢; omega) | exact hc96 | (rw [hc96]; rfl))), HD.out⟩
            · replace HB65 := Lib.hid (ifF (bF hc96) HB65.out)
              have HK97 := Lib.hid hc96
              obtain rfl := Option.some.inj HB65.out
              replace HB63 := Lib.hid (ifF (by first | exact Bool.false_ne_true | exact not_false) HB63.out)
              by_cases hz98 : y60 = 0
              · subst hz98
                try simp only [errV_zero]
                replace HB63 := Lib.hid (ifT (by decide) HB63.out)
                obtain ⟨y102, hy100, hm⟩ := obind HB63.out
                replace HB63 := Lib.hid hm; clear hm
                have HC101 := brambleweir_book_Book_Lines_ok W89 (HP.rdBk (its1 := [_, _]) HOA.out) hy100
                clear hy100
                replace HC101 := Lib.hid HC101
                go_wp2_with fail
                refine HC101.out.mono ?_; rintro e W103 ⟨V104, rfl, ho, hd⟩
                try clear hc96
                replace HOA := Lib.hid (HOA.out.call hd HD.out.size ho); clear ho
                replace HD := Lib.hid (HD.out.trans (hd.mono HD.out.size))
                clear hd
                obtain ⟨y108, hy106, hm⟩ := obind HB63.out
                replace HB63 := Lib.hid hm; clear hm
                obtain ⟨A109, cap110, he, _⟩ := HP.open_L HOA.out (List.Mem.head _)
                subst he
                have HC107 := SE_Lines_ok W103 cap110 (HP.rd_L HOA.out (List.Mem.head _)) cap95 (HP.rd_L HOA.out (List.Mem.tail _ (List.Mem.tail _ (List.Mem.head _)))) hy106
                clear hy106
                replace HC107 := Lib.hid HC107
                go_wp2_with fail
                refine HC107.out.mono ?_; rintro e W111 ⟨rfl, hd⟩
                replace HOA := Lib.hid (HOA.out.below (hd.below _))
                replace HD := Lib.hid (HD.out.trans ((hd.below _).mono HD.out.size))
                clear hd
                cases y108
                · replace HB63 := Lib.hid (ifF Bool.false_ne_true HB63.out)
                  obtain rfl := Option.some.inj HB63.out
                  obtain rfl := Option.some.inj HM.out
                  go_wp2_with fail
                  go_ret
                  exact ⟨rfl, HD.out⟩
                · replace HB63 := Lib.hid (ifT rfl HB63.out)
                  obtain rfl := Option.some.inj HB63.out
                  obtain rfl := Option.some.inj HM.out
                  go_wp2_with fail
                  go_ret
                  exact ⟨rfl, HD.out⟩
              · try rw [errV_pos _ hz98]
                have HZ99 := Lib.hid hz98; clear hz98
                replace HB63 := Lib.hid (ifF (fun h => HZ99.out (eq_of_beq h)) HB63.out)
                obtain rfl := Option.some.inj HB63.out
                obtain rfl := Option.some.inj HM.out
                go_wp2_with fail
                go_ret
                exact ⟨(by first | rfl | (refine congrArg (fun b => Ending.returned (Value.bool b)) ?_; first | (exact decide_eq_true (by omega)) | (exact decide_eq_false (by omega)) | (have q := hc96; rw [bne_iff_ne] at q ⊢; omega) | (have q := hc96; rw [bne_eq_false_iff_eq] at q ⊢; omega) | (have q := hc96; rw [beq_iff_eq] at q ⊢; omega) | (have q := hc96; rw [beq_eq_false_iff_ne] at q ⊢; omega) | exact hc96 | (rw [hc96]; rfl))), HD.out⟩
        · replace HM := Lib.hid (ifT rfl HM.out)
          obtain rfl := Option.some.inj HM.out
          go_wp2_with fail
          go_ret
          exact ⟨rfl, HD.out⟩
    · rw [errV_pos _ hz26] at HC22; replace HC22 := Lib.hid HC22
      go_wp2_with fail
      refine HC22.out.mono ?_; rintro e W23 ⟨rfl, hp, hb⟩
      replace HOA := Lib.hid (show HP W23 w.heap.size [.fl (owL V17 (y15)), (bkI g11 (z25))] from hp); clear hp
      replace HD := Lib.hid (HD.out.trans hb); clear hb
      have HZ27 := Lib.hid hz26; clear hz26
      replace HM := Lib.hid (ifT (bne_iff_ne.2 HZ27.out) HM.out)
      obtain ⟨y114, hy112, hm⟩ := obind HM.out
      replace HM := Lib.hid hm; clear hm
      have HC113 := brambleweir_book_Book_Lines_ok W23 (HP.rdBk (its1 := [_]) HOA.out) hy112
      clear hy112
      replace HC113 := Lib.hid HC113
      go_wp2_with fail
      refine HC113.out.mono ?_; rintro e W115 ⟨V116, rfl, ho, hd⟩
      replace HOA := Lib.hid (HOA.out.call hd HD.out.size ho); clear ho
      replace HD := Lib.hid (HD.out.trans (hd.mono HD.out.size))
      clear hd
      obtain ⟨y120, hy118, hm⟩ := obind HM.out
      replace HM := Lib.hid hm; clear hm
      obtain ⟨A121, cap122, he, _⟩ := HP.open_L HOA.out (List.Mem.head _)
      subst he
      obtain ⟨A123, cap124, he, _⟩ := HP.open_L HOA.out (List.Mem.tail _ (List.Mem.head _))
      subst he
      have HC119 := SE_Lines_ok W115 cap122 (HP.rd_L HOA.out (List.Mem.head _)) cap124 (HP.rd_L HOA.out (List.Mem.tail _ (List.Mem.head _))) hy118
      clear hy118
      replace HC119 := Lib.hid HC119
      go_wp2_with fail
      refine HC119.out.mono ?_; rintro e W125 ⟨rfl, hd⟩
      replace HOA := Lib.hid (HOA.out.below (hd.below _))
      replace HD := Lib.hid (HD.out.trans ((hd.below _).mono HD.out.size))
      clear hd
      obtain rfl := Option.some.inj HM.out
      go_wp2_with fail
      go_ret
      exact ⟨rfl, HD.out⟩
end Go.Proofs.YthmfgnpkbcbkcaaDoor
