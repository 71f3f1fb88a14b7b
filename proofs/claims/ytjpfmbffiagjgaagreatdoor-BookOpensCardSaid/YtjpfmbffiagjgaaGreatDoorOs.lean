import Derived.Test.YtjpfmbffiagjgaaGreatDoorR3
/- BookOpens -/
set_option linter.all false
set_option maxRecDepth 100000
namespace Go.Proofs.YtjpfmbffiagjgaaGreatDoor
open Go.RowKit Go.Shelf Pl
set_option maxHeartbeats 8000000 in
theorem bookOpens_any (w : World) (hop : OpB w.heap.size w) (htc : TyCell w) (s : ByteArray) (_ : s.size ≤ maxLen) :
    Calls Tryz.prog 3 #[.string s] w fun e w' => e = .returned (.bool true) ∧ Below w.heap.size w w' := by
  have HOP := Lib.hid hop; clear hop
  have HTC := Lib.hid htc; clear htc
  obtain ⟨e, m, b', x', h1, h2, h3⟩ := open4_rel s
  have H1 := Lib.hid h1; have H2 := Lib.hid h2; have H3 := Lib.hid h3; clear h1 h2 h3
  have HC := Lib.hid (mO4_ok w H2.out)
  unfold PostO4 at HC
  go_enter Tryz.func3, Tryz.ntmps3
  go_wp2_with fail
  refine HC.out.mono ?_; rintro e1 W1 ⟨V, rfl, ho, hd⟩
  have HOA := Lib.hid (HP.call (HP.nil (W := w) (B := w.heap.size)) hd (Nat.le_refl _) ho)
  have HD := Lib.hid hd; clear hd ho HC
  obtain ⟨A1, cap1, hV, _⟩ := HP.open_L HOA.out (List.Mem.head _)
  subst hV
  replace HOP := Lib.hid (HOP.out.go HD.out)
  have hb8 : Below W1.heap.size W1 (W1.alloc (.cells #[.slice A1 x'.1.length cap1, .string x'.2.1, .int .i64 x'.2.2] 24)) := (Below.refl _ _).alloc (Nat.le_refl _) _
  replace HOA := Lib.hid (HP.call HOA.out hb8 HD.out.size (owRB_ok W1 (.slice A1 x'.1.length cap1) x'.2.1 x'.2.2))
  replace HOP := Lib.hid (HOP.out.go (hb8.mono HD.out.size))
  replace HD := Lib.hid (HD.out.trans (hb8.mono HD.out.size)); clear hb8
  go_wp2_with fail
  generalize W1.heap.size = g3 at *
  generalize World.alloc W1 _ = W2 at *
  refine (mOpen_ok W2 (HOP.out.mono HD.out.size) H1.out).mono ?_; rintro e2 W3 ⟨hd, (⟨h0, g, rfl, hp⟩ | ⟨h0, rfl⟩)⟩
  · have he : e = 0 := h0
    subst he
    have HR := Lib.hid (H3.out rfl)
    replace HOA := Lib.hid (show HP W3 w.heap.size [bkI g b', .fl (owRB g3 (.slice A1 x'.1.length cap1) x'.2.1 x'.2.2), .fl (owL (.slice A1 x'.1.length cap1) x'.1)] from HP.callIt HOA.out hd HD.out.size hp)
    replace HD := Lib.hid (HD.out.trans (hd.mono HD.out.size)); clear hd hp h0 H1 H2 H3
    have htx := HR.out.txt
    rw [htx] at HOA
    have hmm : (m == m) = true := beq_self_eq_true _
    have hself : (b'.2.1.toList == b'.2.1.toList) = true := beq_self_eq_true _
    go_upto_region 5 with (fail)
    refine wp_region_ph [.P 0, .P 1, .P 2, .P 3, .P 4, .P 6, .F 7 5, .S [8], .P 9, .P 10, .P 11, .F 13 12, .S [14], .S [15], .P 16, .P 17] (by kernel_rfl) (by kernel_rfl) ?_
    iterate 6 (refine wpPs_P rfl rfl (fun K hK => ?_); go_simp; refine hK _ ?_; clear hK K)
    replace HOA := Lib.hid (HOA.out.dr (Dr.one W3))
    replace HD := Lib.hid (HD.out.trans ((Dr.one W3).below _))
    generalize World.drew W3 = W21 at *
    obtain ⟨k0, k1, k2, _⟩ := HP.rbGet HOA.out (List.Mem.tail _ (List.Mem.head _))
    refine wpPs_F (.string b'.2.1) rfl rfl rfl (by go_simp) (fun Q' hQ' hL' => ?_)
    clear k0 k1 k2
    have HT := Lib.hid (bkText_ok (its1 := []) W21 HOA.out HD.out.size)
    go_wp2_with fail
    refine HT.out.mono ?_; rintro e1 W22 ⟨rfl, hp, hb⟩
    replace HOA := Lib.hid (show HP W22 w.heap.size [bkI g b', .fl (owRB g3 (.slice A1 x'.1.length cap1) b'.2.1 x'.2.2), .fl (owL (.slice A1 x'.1.length cap1) x'.1)] from hp)
    replace HD := Lib.hid (HD.out.trans hb); clear hp hb HT
    obtain ⟨k0, k1, k2, _⟩ := HP.rbGet HOA.out (List.Mem.tail _ (List.Mem.head _))
    go_wp2_with fail
    refine hQ' _ _ (by go_simp) ?_; clear hQ' hL' Q'
    refine wpPs_S rfl (fun Q' hQ' hL' => ?_)
    go_wp2_with fail
    refine hQ' _ _ ?_; clear hQ' hL' Q' hself
    iterate 3 (refine wpPs_P rfl rfl (fun K hK => ?_); go_simp; refine hK _ ?_; clear hK K)
    refine wpPs_F (.agg #[.slice A1 x'.1.length cap1, .string b'.2.1, .int .i64 x'.2.2]) rfl rfl rfl (by go_simp) (fun Q' hQ' hL' => ?_)
    clear k0 k1 k2
    have HT := Lib.hid (brambleweir_book_Book_Lines_ok W22 (HP.rdBk (its1 := []) HOA.out) (lines_ev HR.out.inv))
    go_wp2_with fail
    refine HT.out.mono ?_; rintro e1 W23 ⟨V11, rfl, ho, hd⟩
    replace HOA := Lib.hid (HOA.out.call hd HD.out.size ho)
    replace HD := Lib.hid (HD.out.trans (hd.mono HD.out.size)); clear ho hd HT
    obtain ⟨A11, cap11, hv, _⟩ := HP.open_L HOA.out (List.Mem.head _)
    subst hv
    obtain ⟨k0, k1, k2, _⟩ := HP.rbGet HOA.out (List.Mem.tail _ (List.Mem.tail _ (List.Mem.head _)))
    go_wp2_with fail
    refine hQ' _ _ (by go_simp) ?_; clear hQ' hL' Q' k0 k1 k2
    have ha := all4_ok (t := b'.2.1) (n := x'.2.2) (cap := cap1) W23 (HP.rd_L HOA.out (List.Mem.tail _ (List.Mem.tail _ (List.Mem.tail _ (List.Mem.head _))))) HR.out.size.1
    rw [← all_eq HR.out] at ha
    have HT := Lib.hid ha; clear ha
    refine wpPs_S rfl (fun Q' hQ' hL' => ?_)
    go_wp2_with fail
    refine HT.out.mono ?_; rintro e1 W24 ⟨V12, rfl, ho, hd⟩
    replace HOA := Lib.hid (HOA.out.call hd HD.out.size ho)
    replace HD := Lib.hid (HD.out.trans (hd.mono HD.out.size)); clear ho hd HT
    obtain ⟨A12, cap12, hv, _⟩ := HP.open_L HOA.out (List.Mem.head _)
    subst hv
    try go_wp2_with fail
    refine hQ' _ _ ?_; clear hQ' hL' Q'
    have HT := Lib.hid (SE_Lines_ok W24 cap11 (HP.rd_L HOA.out (List.Mem.tail _ (List.Mem.head _))) cap12 (HP.rd_L HOA.out (List.Mem.head _)) (se_same (linesOf b'.1) (by have := linesOf_le b'.1; omega)))
    refine wpPs_S rfl (fun Q' hQ' hL' => ?_)
    go_wp2_with fail
    refine HT.out.mono ?_; rintro e1 W25 ⟨rfl, hd⟩
    replace HD := Lib.hid (HD.out.trans (hd.below _)); clear hd HT
    try go_wp2_with fail
    refine hQ' _ _ ?_; clear hQ' hL' Q'
    iterate 2 (refine wpPs_P rfl rfl (fun K hK => ?_); go_simp; refine hK _ ?_; clear hK K)
    refine wpPs_nil ?_
    go_wp2_with fail
    go_ret
    exact ⟨rfl, HD.out⟩
  · have he : e ≠ 0 := h0
    have hq : (e != 0) = true := by rw [bne_iff_ne]; exact he
    have hmm : (m == m) = true := beq_self_eq_true _
    replace HD := Lib.hid (HD.out.trans (hd.mono HD.out.size)); clear hd h0 H1 H2 H3 HOA
    have HE := Lib.hid (mErr_ok (c := e) (k := e) (r := true) W3 (HTC.out.go HD.out) (by show some (decide (e = e)) = some true; simp))
    dsimp only
    rw [errV_pos _ he] at HE ⊢
    go_wp2_with fail
    refine HE.out.mono ?_; rintro e1 W4 ⟨rfl, hd⟩
    replace HD := Lib.hid (HD.out.trans (hd.mono HD.out.size)); clear hd
    go_wp2_with fail
    go_ret
    exact ⟨rfl, HD.out⟩
end Go.Proofs.YtjpfmbffiagjgaaGreatDoor
