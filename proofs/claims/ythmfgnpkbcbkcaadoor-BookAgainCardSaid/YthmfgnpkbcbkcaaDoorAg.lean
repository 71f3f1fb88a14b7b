import Derived.Test.YthmfgnpkbcbkcaaDoorOg
import Derived.Test.YthmfgnpkbcbkcaaDoorBW
import Derived.Test.YthmfgnpkbcbkcaaDoorPhI
/- BookAgain -/
set_option linter.all false
set_option maxRecDepth 100000
namespace Go.Proofs.YthmfgnpkbcbkcaaDoor
open Go.RowKit Go.Shelf Pl
theorem TabB.at_of {B : Nat} {w : World} (h : TabB B w) : TabC w := h.1
set_option maxHeartbeats 4000000 in
theorem again_walk {b b' : BkT} {e : Int} {ls ls' : List (Int × Int)} {steps : List (List Int)} {A : Option Addr} {cap : Nat} {i j : Int} (w : World) (hop : OpB w.heap.size w) (hr : ReadsR w w.heap.size A steps)
    (hp : L4_put 300 steps = some b) (ho : mOpen b.2.1 = some (0, b.2.2, b)) (hl : brambleweir_book_Book_Lines 300 b.1 = some ls) (hs : SE_Lines 300 ls ls = some true) (hj : mJoin b i j = some (e, b'))
    (hl' : brambleweir_book_Book_Lines 300 b'.1 = some ls') (hs' : SE_Lines 300 ls' ls' = some true) :
    Calls Tryd.prog 6 #[.slice A steps.length cap, .int .i64 i, .int .i64 j] w fun e w' => e = .returned (.bool true) ∧ Below w.heap.size w w' := by
  have HOP := Lib.hid hop; clear hop
  have HR := Lib.hid hr; clear hr
  have HP0 := Lib.hid hp; have HO := Lib.hid ho; have HL := Lib.hid hl; have HS := Lib.hid hs; have HJ := Lib.hid hj; have HL' := Lib.hid hl'; have HS' := Lib.hid hs'
  clear hp ho hl hs hj hl' hs'
  have HD := Lib.hid (Below.refl w.heap.size w)
  have hself : (b.2.1.toList == b.2.1.toList) = true := beq_self_eq_true _
  have hself' : (b'.2.1.toList == b'.2.1.toList) = true := beq_self_eq_true _
  go_enter Tryd.func6, Tryd.ntmps6
  go_wp2_with fail
  refine (bookFactM_ok w HOP.out.tab.1 rfl).mono ?_; rintro e1 W1 ⟨rfl, hd⟩
  replace HOP := Lib.hid (HOP.out.go hd)
  replace HD := Lib.hid (HD.out.trans hd); clear hd
  go_wp2_with fail
  refine (L4_put_ok W1 HOP.out.tab.1 cap (rdR HD.out HR.out) HP0.out).mono ?_; rintro e2 W2 ⟨g, rfl, hp, hd⟩
  have HOA := Lib.hid (HP.callIt (its := []) HP.nil hd HD.out.size hp)
  replace HOP := Lib.hid (HOP.out.go (hd.mono HD.out.size))
  replace HD := Lib.hid (HD.out.trans (hd.mono HD.out.size)); clear hd hp
  go_wp2_with fail
  refine (bkText_ok (its1 := []) W2 HOA.out HD.out.size).mono ?_; rintro e3 W3 ⟨rfl, hp, hd⟩
  replace HOA := Lib.hid hp
  replace HOP := Lib.hid (HOP.out.go hd)
  replace HD := Lib.hid (HD.out.trans hd); clear hd hp
  go_wp2_with fail
  refine (mOpen_ok W3 (HOP.out.mono HD.out.size) HO.out).mono ?_; rintro e4 W4 ⟨hd, (⟨_, g2, rfl, hp⟩ | ⟨hne, _⟩)⟩
  case inr => exact absurd rfl hne
  replace HOA := Lib.hid (show HP W4 w.heap.size [bkI g2 b, bkI g b] from HP.callIt HOA.out hd HD.out.size hp)
  replace HOP := Lib.hid (HOP.out.go (hd.mono HD.out.size))
  replace HD := Lib.hid (HD.out.trans (hd.mono HD.out.size)); clear hd hp
  go_wp2_with fail
  refine (bkText_ok (its1 := []) W4 HOA.out HD.out.size).mono ?_; rintro e5 W5 ⟨rfl, hp, hd⟩
  replace HOA := Lib.hid hp
  replace HOP := Lib.hid (HOP.out.go hd)
  replace HD := Lib.hid (HD.out.trans hd); clear hd hp
  go_wp2_with fail
  refine (bkText_ok (its1 := [_]) W5 HOA.out HD.out.size).mono ?_; rintro e6 W6 ⟨rfl, hp, hd⟩
  replace HOA := Lib.hid hp
  replace HOP := Lib.hid (HOP.out.go hd)
  replace HD := Lib.hid (HD.out.trans hd); clear hd hp
  go_wp2_with fail
  refine (brambleweir_book_Book_Lines_ok W6 (HP.rdBk (its1 := []) HOA.out) HL.out).mono ?_; rintro e7 W7 ⟨V7, rfl, ho, hd⟩
  replace HOA := Lib.hid (HOA.out.call hd HD.out.size ho)
  replace HOP := Lib.hid (HOP.out.go (hd.mono HD.out.size))
  replace HD := Lib.hid (HD.out.trans (hd.mono HD.out.size)); clear hd ho
  go_wp2_with fail
  refine (brambleweir_book_Book_Lines_ok W7 (HP.rdBk (its1 := [_, _]) HOA.out) HL.out).mono ?_; rintro e8 W8 ⟨V8, rfl, ho, hd⟩
  replace HOA := Lib.hid (HOA.out.call hd HD.out.size ho)
  replace HOP := Lib.hid (HOP.out.go (hd.mono HD.out.size))
  replace HD := Lib.hid (HD.out.trans (hd.mono HD.out.size)); clear hd ho
  obtain ⟨A7, c7, rfl, r7⟩ := HP.open_L HOA.out (List.Mem.tail _ (List.Mem.head _))
  obtain ⟨A8, c8, rfl, r8⟩ := HP.open_L HOA.out (List.Mem.head _)
  go_wp2_with fail
  refine (SE_Lines_ok W8 c7 r7 c8 r8 HS.out).mono ?_; rintro e9 W9 ⟨rfl, hd⟩
  replace HOA := Lib.hid (HOA.out.dr hd)
  replace HOP := Lib.hid (HOP.out.go (hd.below _))
  replace HD := Lib.hid (HD.out.trans (hd.below _)); clear hd r7 r8
  replace HOA := Lib.hid (show HP W9 w.heap.size [bkI g2 b, bkI g b] from HOA.out.sub (.cons _ (.cons _ (List.Sublist.refl _))))
  go_wp2_with fail
  refine (mJoin_ok (its1 := [_]) W9 HOP.out.tab HOA.out HD.out.size HJ.out).mono ?_; rintro e10 W10 ⟨rfl, hp, hd⟩
  replace HOA := Lib.hid hp
  replace HOP := Lib.hid (HOP.out.go hd)
  replace HD := Lib.hid (HD.out.trans hd); clear hd hp
  go_wp2_with fail
  refine (mJoin_ok (its1 := []) W10 HOP.out.tab HOA.out HD.out.size HJ.out).mono ?_; rintro e11 W11 ⟨rfl, hp, hd⟩
  replace HOA := Lib.hid (show HP W11 w.heap.size [bkI g2 b', bkI g b'] from hp)
  replace HOP := Lib.hid (HOP.out.go hd)
  replace HD := Lib.hid (HD.out.trans hd); clear hd hp
  by_cases he : e = 0
  · subst he
    rw [errV_zero]
    go_upto_region 10 with (fail)
    refine wp_region_ph [.P 0, .P 1, .P 2, .P 3, .P 4, .P 5, .P 6, .P 8, .S [7, 9, 10, 11, 12], .P 13, .P 15, .S [14, 16, 17, 18, 19]] (by kernel_rfl) (by kernel_rfl) ?_
    repeat (refine wpPs_P rfl rfl (fun K hK => ?_); go_simp; refine hK _ ?_; clear hK K)
    replace HOA := Lib.hid (HOA.out.dr (Dr.one _))
    replace HOP := Lib.hid (HOP.out.go ((Dr.one _).below _))
    replace HD := Lib.hid (HD.out.trans ((Dr.one _).below _))
    generalize hW : World.drew W11 = W12 at *
    clear hW
    refine wpPs_S rfl (fun Q' hQ' hL' => ?_)
    go_wp2_with fail
    refine (bkText_ok (its1 := []) W12 HOA.out HD.out.size).mono ?_; rintro e12 W13 ⟨rfl, hp, hd⟩
    replace HOA := Lib.hid hp
    replace HOP := Lib.hid (HOP.out.go hd)
    replace HD := Lib.hid (HD.out.trans hd); clear hd hp
    go_wp2_with fail
    refine (bkText_ok (its1 := [_]) W13 HOA.out HD.out.size).mono ?_; rintro e13 W14 ⟨rfl, hp, hd⟩
    replace HOA := Lib.hid hp
    replace HOP := Lib.hid (HOP.out.go hd)
    replace HD := Lib.hid (HD.out.trans hd); clear hd hp
    go_wp2_with fail
    refine hQ' _ _ ?_; clear hQ' hL' Q'
    repeat (refine wpPs_P rfl rfl (fun K hK => ?_); go_simp; refine hK _ ?_; clear hK K)
    refine wpPs_S rfl (fun Q' hQ' hL' => ?_)
    go_wp2_with fail
    refine (brambleweir_book_Book_Lines_ok W14 (HP.rdBk (its1 := []) HOA.out) HL'.out).mono ?_; rintro e14 W15 ⟨V15, rfl, ho, hd⟩
    replace HOA := Lib.hid (HOA.out.call hd HD.out.size ho)
    replace HOP := Lib.hid (HOP.out.go (hd.mono HD.out.size))
    replace HD := Lib.hid (HD.out.trans (hd.mono HD.out.size)); clear hd ho
    go_wp2_with fail
    refine (brambleweir_book_Book_Lines_ok W15 (HP.rdBk (its1 := [_, _]) HOA.out) HL'.out).mono ?_; rintro e15 W16 ⟨V16, rfl, ho, hd⟩
    replace HOA := Lib.hid (HOA.out.call hd HD.out.size ho)
    replace HOP := Lib.hid (HOP.out.go (hd.mono HD.out.size))
    replace HD := Lib.hid (HD.out.trans (hd.mono HD.out.size)); clear hd ho
    obtain ⟨A15, c15, rfl, r15⟩ := HP.open_L HOA.out (List.Mem.tail _ (List.Mem.head _))
    obtain ⟨A16, c16, rfl, r16⟩ := HP.open_L HOA.out (List.Mem.head _)
    go_wp2_with fail
    refine (SE_Lines_ok W16 c15 r15 c16 r16 HS'.out).mono ?_; rintro e16 W17 ⟨rfl, hd⟩
    replace HD := Lib.hid (HD.out.trans (hd.below _)); clear hd r15 r16
    go_wp2_with fail
    refine hQ' _ _ ?_; clear hQ' hL' Q'
    refine wpPs_nil ?_
    go_wp2_with fail
    go_ret
    exact ⟨rfl, HD.out⟩
  · rw [errV_pos _ he]
    go_upto_region 10 with (fail)
    refine wp_region_ph [.P 0, .P 1, .P 2, .P 3, .P 4, .P 5, .P 6, .P 8, .S [7, 9, 10, 11, 12], .P 13, .P 15, .S [14, 16, 17, 18, 19]] (by kernel_rfl) (by kernel_rfl) ?_
    repeat (refine wpPs_P rfl rfl (fun K hK => ?_); go_simp; refine hK _ ?_; clear hK K)
    replace HOA := Lib.hid (HOA.out.dr (Dr.one _))
    replace HOP := Lib.hid (HOP.out.go ((Dr.one _).below _))
    replace HD := Lib.hid (HD.out.trans ((Dr.one _).below _))
    generalize hW : World.drew W11 = W12 at *
    clear hW
    refine wpPs_S rfl (fun Q' hQ' hL' => ?_)
    go_wp2_with fail
    refine (bkText_ok (its1 := []) W12 HOA.out HD.out.size).mono ?_; rintro e12 W13 ⟨rfl, hp, hd⟩
    replace HOA := Lib.hid hp
    replace HOP := Lib.hid (HOP.out.go hd)
    replace HD := Lib.hid (HD.out.trans hd); clear hd hp
    go_wp2_with fail
    refine (bkText_ok (its1 := [_]) W13 HOA.out HD.out.size).mono ?_; rintro e13 W14 ⟨rfl, hp, hd⟩
    replace HOA := Lib.hid hp
    replace HOP := Lib.hid (HOP.out.go hd)
    replace HD := Lib.hid (HD.out.trans hd); clear hd hp
    go_wp2_with fail
    refine hQ' _ _ ?_; clear hQ' hL' Q'
    repeat (refine wpPs_P rfl rfl (fun K hK => ?_); go_simp; refine hK _ ?_; clear hK K)
    refine wpPs_S rfl (fun Q' hQ' hL' => ?_)
    go_wp2_with fail
    refine (brambleweir_book_Book_Lines_ok W14 (HP.rdBk (its1 := []) HOA.out) HL'.out).mono ?_; rintro e14 W15 ⟨V15, rfl, ho, hd⟩
    replace HOA := Lib.hid (HOA.out.call hd HD.out.size ho)
    replace HOP := Lib.hid (HOP.out.go (hd.mono HD.out.size))
    replace HD := Lib.hid (HD.out.trans (hd.mono HD.out.size)); clear hd ho
    go_wp2_with fail
    refine (brambleweir_book_Book_Lines_ok W15 (HP.rdBk (its1 := [_, _]) HOA.out) HL'.out).mono ?_; rintro e15 W16 ⟨V16, rfl, ho, hd⟩
    replace HOA := Lib.hid (HOA.out.call hd HD.out.size ho)
    replace HOP := Lib.hid (HOP.out.go (hd.mono HD.out.size))
    replace HD := Lib.hid (HD.out.trans (hd.mono HD.out.size)); clear hd ho
    obtain ⟨A15, c15, rfl, r15⟩ := HP.open_L HOA.out (List.Mem.tail _ (List.Mem.head _))
    obtain ⟨A16, c16, rfl, r16⟩ := HP.open_L HOA.out (List.Mem.head _)
    go_wp2_with fail
    refine (SE_Lines_ok W16 c15 r15 c16 r16 HS'.out).mono ?_; rintro e16 W17 ⟨rfl, hd⟩
    replace HD := Lib.hid (HD.out.trans (hd.below _)); clear hd r15 r16
    go_wp2_with fail
    refine hQ' _ _ ?_; clear hQ' hL' Q'
    refine wpPs_nil ?_
    go_wp2_with fail
    go_ret
    exact ⟨rfl, HD.out⟩
theorem bookAgain_any (w : World) (hop : OpB w.heap.size w) (A : Option Addr) (cap : Nat) (l : List (List Int)) (hr : ReadsR w w.heap.size A l ∧ l.length ≤ maxLen ∧ ∀ x ∈ l, x.length ≤ maxLen ∧ ∀ n ∈ x, (Lit.int .i64 n).wf = true) (i : Int) (_ : (Lit.int .i64 i).wf = true) (j : Int) (_ : (Lit.int .i64 j).wf = true) :
    Calls Tryd.prog 6 #[.slice A l.length cap, .int .i64 i, .int .i64 j] w fun e w' => e = .returned (.bool true) ∧ Below w.heap.size w w' := by
  obtain ⟨g1, g2⟩ := goH_run (l.take 70) newB new_inv
  obtain ⟨e, b', j1, j2, _⟩ := join_ev g2 i j
  exact again_walk w hop hr.1 (put_goH l) (open_whole g1) (lines_ev g2) (se_same _ (by have := linesOf_le (goH (l.take 70) newB).2.1; omega)) j1 (lines_ev j2) (se_same _ (by have := linesOf_le b'.1; omega))
end Go.Proofs.YthmfgnpkbcbkcaaDoor
