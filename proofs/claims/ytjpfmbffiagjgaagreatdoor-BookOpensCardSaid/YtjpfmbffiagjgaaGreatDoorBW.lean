import Derived.Test.YtjpfmbffiagjgaaGreatDoorBP
import Derived.Test.YtjpfmbffiagjgaaGreatDoorBL
import Derived.Test.YtjpfmbffiagjgaaGreatDoorBF
import Derived.Test.YtjpfmbffiagjgaaGreatDoorGL
import Derived.Test.YtjpfmbffiagjgaaGreatDoorErr
import Derived.Test.YtjpfmbffiagjgaaGreatDoorBox
import Derived.Test.YtjpfmbffiagjgaaGreatDoorQB
/- the closed fact -/
set_option linter.all false
set_option maxRecDepth 100000
namespace Go.Proofs.YtjpfmbffiagjgaaGreatDoor
open Go.RowKit Go.Shelf Pl
theorem dec0 : dec 0 = (⟨#[48]⟩ : ByteArray) := by unfold dec Lib.itoa; rw [if_neg (by decide)]; rw [show Int.toNat 0 = 0 from rfl, Lib.decDigits_one (by omega)]; rfl
theorem dec1 : dec 1 = (⟨#[49]⟩ : ByteArray) := by unfold dec Lib.itoa; rw [if_neg (by decide)]; rw [show Int.toNat 1 = 1 from rfl, Lib.decDigits_one (by omega)]; rfl
theorem fact_text : ∃ t : ByteArray, (joinB newB 0 1).2.1 = (⟨#[106, 32, 48, 32, 49, 32]⟩ : ByteArray) ++ t ∧ 0 < t.size := by
  refine ⟨dec ((bsm (dnW (⟨#[106]⟩ : ByteArray) [0, 1]).data.toList 0 % 9973 : Nat) : Int) ++ (⟨#[10]⟩ : ByteArray), ?_, by rw [ByteArray.size_append, one_size]; omega⟩
  show (⟨#[]⟩ : ByteArray) ++ lineW (dnW (⟨#[106]⟩ : ByteArray) [0, 1]) = _
  have e : dnW (⟨#[106]⟩ : ByteArray) [0, 1] = (⟨#[106, 32, 48, 32, 49]⟩ : ByteArray) := by
    rw [dnW, dnW, dnW, dec0, dec1]; rfl
  unfold lineW
  rw [e]
  generalize dec _ = d
  simp [← ByteArray.append_assoc]
  rfl
def bookFactM : Option Bool := some true
set_option maxHeartbeats 2000000 in
theorem bookFactM_ok {r : Bool} (w : World) (htb : TabC w) (h : bookFactM = some r) :
    Calls Tryz.prog 12 #[] w fun e w' => e = .returned (.bool r) ∧ Below w.heap.size w w' := by
  obtain rfl := Option.some.inj h
  have HTB := Lib.hid htb.at_; clear htb h
  have hj : mJoin newB 0 1 = some (0, joinB newB 0 1) := by
    unfold mJoin; rw [if_pos (by decide), if_pos (by decide), if_neg (by decide), if_neg (by decide)]
  have hm : (joinB newB 0 1).1 = [2, 1, 0, 0, 0, 0, 0, 0] := by decide
  have hf : brambleweir_book_Book_Far 300 (joinB newB 0 1).1 1 0 = some (1, 0) := by rw [hm]; decide +kernel
  have hl : brambleweir_book_Book_Lines 300 (joinB newB 0 1).1 = some [(0, 1)] := by rw [hm]; decide +kernel
  have he : SE_Lines 300 [((0 : Int), (1 : Int))] [(0, 1)] = some true := by decide +kernel
  obtain ⟨t, ht, ht0⟩ := fact_text
  have HJ := Lib.hid hj; have HF := Lib.hid hf; have HL := Lib.hid hl; have HE := Lib.hid he; have HT := Lib.hid ht; have HT0 := Lib.hid ht0
  clear hj hm hf hl he ht ht0
  go_enter Tryz.func12, Tryz.ntmps12
  go_wp2_with fail
  refine (bkNew_ok w).mono ?_; rintro e W1 ⟨g, rfl, h1, hd1⟩
  have HD1 := Lib.hid hd1; have H1 := Lib.hid h1; clear hd1 h1
  have HC := mJoin_ok2 (its1 := []) W1 (HTB.out.go HD1.out) H1.out HD1.out.size HJ.out
  rw [errV_zero] at HC
  replace HC := Lib.hid HC
  go_wp2_with fail
  refine HC.out.mono ?_; rintro e W2 ⟨rfl, h2, hd2⟩
  have HD2 := Lib.hid (HD1.out.trans hd2); have H2 := Lib.hid h2; clear hd2 h2
  have HC2 := brambleweir_book_Book_Far_ok W2 (HP.rdBk (its1 := []) H2.out) HF.out
  dsimp only at HC2
  rw [errV_zero] at HC2
  replace HC2 := Lib.hid HC2
  go_wp2_with fail
  refine HC2.out.mono ?_; rintro e W3 ⟨rfl, hd3⟩
  have H3 := Lib.hid (H2.out.below hd3); have HD3 := Lib.hid (HD2.out.trans (hd3.mono HD2.out.size)); clear hd3
  go_wp2_with fail
  refine (brambleweir_book_Book_Lines_ok W3 (HP.rdBk (its1 := []) H3.out) HL.out).mono ?_; rintro e W4 ⟨V, rfl, ho, hd4⟩
  have H4 := Lib.hid (H3.out.call hd4 HD3.out.size ho); have HD4 := Lib.hid (HD3.out.trans (hd4.mono HD3.out.size)); clear hd4 ho
  obtain ⟨A, cap, he4, hr4⟩ := HP.open_L H4.out (List.Mem.head _)
  subst he4
  have HR4 := Lib.hid hr4; clear hr4
  have hal : Below W4.heap.size W4 (W4.alloc (.cells #[.int .i64 0, .int .i64 1] 64)) := (Below.refl _ _).alloc (Nat.le_refl _) _
  have hlit : ReadsL (W4.alloc (.cells #[.int .i64 0, .int .i64 1] 64)) (W4.alloc (.cells #[.int .i64 0, .int .i64 1] 64)).heap.size (some ⟨W4.heap.size, 0, none⟩) [((0 : Int), (1 : Int))] := by
    refine ⟨rfl, fun _ => ⟨W4.heap.size, 0, rfl, by simp, fun j u hu => ?_⟩⟩
    rw [cell_of_row _ _ _ _ _ _ (heap_alloc_new W4 _)]
    simpa [lineCells] using hu
  have HC5 := Lib.hid (SE_Lines_ok _ cap (rdL hal HR4.out) 1 hlit HE.out)
  have H5 := Lib.hid (H4.out.below hal); have HD5 := Lib.hid (HD4.out.trans (hal.mono HD4.out.size)); clear hal hlit
  go_wp2_with fail
  refine HC5.out.mono ?_; rintro e W6 ⟨rfl, hd6⟩
  have H6 := Lib.hid (H5.out.dr hd6); have HD6 := Lib.hid (HD5.out.trans ((hd6.below _).mono HD5.out.size)); clear hd6
  go_wp2_with fail
  refine (mText_ok (its1 := [_]) W6 H6.out HD6.out.size rfl).mono ?_; rintro e W7 ⟨rfl, h7, hd7⟩
  have H7 := Lib.hid h7; have HD7 := Lib.hid (HD6.out.trans hd7); clear h7 hd7
  have hs6 : (6 : Int) < ((joinB newB 0 1).2.1.size : Int) := by rw [HT.out, ByteArray.size_append]; have := HT0.out; show (6 : Int) < ((6 + t.size : Nat) : Int); omega
  go_wp2_with fail
  refine (mText_ok (its1 := [_]) W7 H7.out HD7.out.size rfl).mono ?_; rintro e W8 ⟨rfl, h8, hd8⟩
  have H8 := Lib.hid h8; have HD8 := Lib.hid (HD7.out.trans hd8); clear h8 hd8
  have he8 : (joinB newB 0 1).2.1.extract 0 6 = (⟨#[106, 32, 48, 32, 49, 32]⟩ : ByteArray) := by
    rw [HT.out]
    apply ByteArray.ext
    simp [ByteArray.data_extract, ByteArray.data_append]
  have hl8 : ((joinB newB 0 1).2.1.extract 0 6).toList = [106, 32, 48, 32, 49, 32] := by rw [he8]; decide +kernel
  have HL8 := Lib.hid hl8; clear he8 hl8
  go_wp2_with fail
  go_ret
  exact ⟨ret_v (congrArg Value.bool (by rw [HL8.out]; decide)), HD8.out⟩
end Go.Proofs.YtjpfmbffiagjgaaGreatDoor
set_option linter.all false
set_option maxRecDepth 100000
namespace Go.Proofs.YtjpfmbffiagjgaaGreatDoor
open Go.RowKit
attribute [local go_sem] Oper.semAt_some
end Go.Proofs.YtjpfmbffiagjgaaGreatDoor
