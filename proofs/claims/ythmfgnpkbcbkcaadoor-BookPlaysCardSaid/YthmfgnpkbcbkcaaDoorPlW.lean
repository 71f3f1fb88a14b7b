import Derived.Test.YthmfgnpkbcbkcaaDoorRA
import Derived.Test.YthmfgnpkbcbkcaaDoorQB
/- BookPlays -/
set_option linter.all false
set_option maxRecDepth 100000
namespace Go.Proofs.YthmfgnpkbcbkcaaDoor
open Go.RowKit Go.Shelf Pl
theorem len3 {l : List Int} (h : (((l.length : Nat) : Int) != 3) = false) : l.length = 3 := by
  have q : ((l.length : Nat) : Int) = 3 := by simpa using h
  omega
set_option maxHeartbeats 8000000 in
theorem bookPlays_any (w : World) (htb : TabC w) (htc : TyCell w) (A0 : Option Addr) (cap0 : Nat) (v0 : List (List Int)) (hr : ReadsR w w.heap.size A0 v0 ∧ v0.length ≤ maxLen ∧ ∀ x ∈ v0, x.length ≤ maxLen ∧ ∀ n ∈ x, (Lit.int .i64 n).wf = true) (i : Int) (_ : (Lit.int .i64 i).wf = true) (j : Int) (_ : (Lit.int .i64 j).wf = true) :
    Calls Tryd.prog 4 #[.slice A0 v0.length cap0, .int .i64 i, .int .i64 j] w fun e w' => e = .returned (.bool true) ∧ Below w.heap.size w w' := by
  have HTB := Lib.hid htb; have HTC := Lib.hid htc
  have HR0 := Lib.hid hr.1; clear htb htc hr
  have HD := Lib.hid (Below.refl w.heap.size w)
  have HOA := Lib.hid (HP.nil (W := w) (B := w.heap.size))
  go_enter Tryd.func4, Tryd.ntmps4
  have HC := Lib.hid (bkNew_ok w)
  go_wp2_with fail
  refine HC.out.mono ?_; rintro e W5 ⟨g7, rfl, ho, hd⟩
  replace HOA := Lib.hid (show HP W5 w.heap.size [bkI g7 newB] from HOA.out.callIt hd HD.out.size ho); clear ho HC
  replace HD := Lib.hid (HD.out.trans (hd.mono HD.out.size)); clear hd
  go_upto_region 3 with (fail)
  have hd : Below W5.heap.size W5 (W5.alloc (.cells #[.slice none 0 0, .string { data := #[] }, .int .i64 0] 38)) := (Below.refl _ _).alloc (Nat.le_refl _) _
  have ho := owRB_ok W5 (.slice none 0 0) { data := #[] } 0
  replace HOA := Lib.hid ((HOA.out.pushNil 49 2).call hd HD.out.size ho)
  replace HD := Lib.hid (HD.out.trans (hd.mono HD.out.size)); clear hd ho
  generalize hW : World.alloc W5 _ = W6 at *
  clear hW
  go_wp2_with fail
  go_loopg [9] 71 (fun gg us wr => ∃ (k : Nat) (x : RbT) (b : BkT) (V : Value), us = .int .i64 k ∧ k ≤ 70 ∧ gg = 71 - k ∧ Hid (RRel x b) ∧ Hid (Below w.heap.size w wr) ∧ Hid (HP wr w.heap.size [.fl (owRB W5.heap.size V x.2.1 x.2.2), .fl (owL V x.1), bkI g7 b]))
  case atStart => exact ⟨0, ([], { data := #[] }, 0), newB, .slice none 0 0, rfl, by omega, rfl, Lib.hid rrel_new, HD, HOA⟩
  case round =>
    clear HD HOA
    obtain ⟨k, x, b, V, rfl, hk, rfl, HR, HD, HOA⟩ := hrel
    rename World => W13
    by_cases hc1 : ((k : Nat) : Int) < ((v0.length : Nat) : Int)
    · by_cases hc2 : ((k : Nat) : Int) < 70
      · obtain ⟨l, hl⟩ : ∃ l, ix v0 (k : Int) = some l := ⟨_, ix_nat (by omega)⟩
        obtain ⟨b22, o23, A29, cap30, ea24, _, f25, f26, f27, hrr, hrc⟩ := ReadsR.ixc HR0.out hl
        cases ea24
        try simp only [Nat.zero_add, Nat.add_zero, Int.toNat_natCast, Int.toNat_zero, Int.toNat_one] at f27
        replace f27 := (HD.out.cell (p := ⟨b22, o23 + k, none⟩) (World.block_lt_of_cell? _ _ f27)).trans f27
        have HR31 := Lib.hid hrr; clear hrr hrc hl
        rcases Bool.eq_false_or_eq_true (((l.length : Nat) : Int) != 3) with hc3 | hc3
        · go_upto_region 5 with (fail)
          clear hc1 f25 f26 f27 hc3
          go_wp2_with fail
          go_roundg (71 - (k + 1))
          case measure => omega
          case rel => exact ⟨k + 1, x, b, V, by go_num, by omega, rfl, HR, HD, HOA⟩
        · have hl3 := len3 hc3
          obtain ⟨l0, h0⟩ : ∃ y, ix l 0 = some y := ⟨_, ix_at (i := 0) 0 (by omega)⟩
          obtain ⟨l1, h1⟩ : ∃ y, ix l 1 = some y := ⟨_, ix_at (i := 1) 0 (by omega)⟩
          obtain ⟨l2, h2⟩ : ∃ y, ix l 2 = some y := ⟨_, ix_at (i := 2) 0 (by omega)⟩
          have H1 := Lib.hid h1; have H2 := Lib.hid h2; clear h1 h2 hl3
          obtain ⟨b37, o38, ea39, _, f40, f41, f42⟩ := ReadsI.ix (rdI HD.out HR31.out) h0
          cases ea39
          try simp only [Nat.zero_add, Nat.add_zero, Int.toNat_natCast, Int.toNat_zero, Int.toNat_one] at f42
          have f41n := f41; try norm_cast at f41n
          go_upto_if 39 with (fail)
          clear hc1 f25 f26 f27 hc3 f40 f41 f42 f41n h0
          go_cut [11, 12] from 39 to 77 (fun ue uerr wr => ∃ (e : Int) (x' : RbT) (b' : BkT) (V' : Value), ue = .int .i64 e ∧ uerr = errV 64 e ∧ Hid (RRel x' b') ∧ Hid (Below w.heap.size w wr) ∧ Hid (HP wr w.heap.size [.fl (owRB W5.heap.size V' x'.2.1 x'.2.2), .fl (owL V' x'.1), bkI g7 b']))
          case first =>
            rcases Bool.eq_false_or_eq_true (l0 == 0) with hc4 | hc4
            · obtain ⟨e, x', b', j1, j2, hR', _, _⟩ := join_rel HR.out l1 l2
              obtain ⟨A9, cap9, hv, _⟩ := HP.open_L HOA.out (List.Mem.tail _ (List.Mem.head _))
              subst hv
              have h1 := H1.out; have h2 := H2.out
              obtain ⟨b52, o53, ea, _, f52, f53, f54⟩ := ReadsI.ix (rdI HD.out HR31.out) h1
              cases ea
              try simp only [Nat.zero_add, Nat.add_zero, Int.toNat_natCast, Int.toNat_zero, Int.toNat_one] at f54
              obtain ⟨b62, o63, ea, _, f62, f63, f64⟩ := ReadsI.ix (rdI HD.out HR31.out) h2
              cases ea
              try simp only [Nat.zero_add, Nat.add_zero, Int.toNat_natCast, Int.toNat_zero, Int.toNat_one, Int.reduceToNat] at f64
              have f53n := f53; try norm_cast at f53n
              have f63n := f63; try norm_cast at f63n
              clear h1 h2
              obtain ⟨k0, k1, k2, _⟩ := HP.rbGet HOA.out (List.Mem.head _)
              have k0r := cell_regrown (w := W13.drew) k0
              have k1r := cell_regrown (w := W13.drew) k1
              have k2r := cell_regrown (w := W13.drew) k2
              have f54r := cell_regrown (w := W13.drew) f54
              have f64r := cell_regrown (w := W13.drew) f64
              go_upto_region 11 with (fail)
              refine wp_region_ph [.H [0, 1, 2, 3, 4, 5, 6], .S [7, 8], .P 9, .P 10, .S [11, 12]] (by kernel_rfl) (by kernel_rfl) ?_
              refine wpPs_H ?_
              repeat (refine wpQI_step rfl rfl (fun K hK => ?_); go_simp; first | (refine hK _ ?_; clear hK K))
              refine wpQI_nil ?_
              intro _ hw_
              obtain ⟨⟨dq, osq⟩, hw_⟩ := hw_
              subst hw_
              have hd := below_regrown_drew W13 dq osq
              generalize Go.Sort.grow (redrawn W13.drew _) _ = W14 at *
              clear k0r k1r k2r f54r f64r k0 k1 k2 f52 f53 f54 f62 f63 f64 f53n f63n
              replace HOA := Lib.hid (HOA.out.below hd)
              replace HD := Lib.hid (HD.out.trans (hd.mono HD.out.size)); clear hd
              have HC := Lib.hid (mJ4_ok W14 cap9 (HP.rd_L HOA.out (List.Mem.tail _ (List.Mem.head _))) j2)
              refine wpPs_S rfl (fun Q' hQ' hL' => ?_)
              go_wp2_with fail
              refine HC.out.mono ?_; rintro e1 W15 ⟨V', rfl, hrb, hd⟩
              replace HOA := Lib.hid (HP.rbo (its1 := [_]) HOA.out hd HD.out.size hrb)
              replace HD := Lib.hid (HD.out.trans (hd.mono HD.out.size)); clear hd hrb HC
              go_wp2_with fail
              refine hQ' _ _ ?_; clear hQ' hL' Q'
              repeat (refine wpPs_P rfl rfl (fun K hK => ?_); go_simp; refine hK _ ?_; clear hK K)
              obtain ⟨A10, cap10, hv, _⟩ := HP.open_L HOA.out (List.Mem.tail _ (List.Mem.head _))
              subst hv
              obtain ⟨⟨q0, q1, q2⟩, hset, hbs⟩ := HP.setRB (its1 := []) HOA.out (.slice A10 x'.1.length cap10) x'.2.1 x'.2.2
              have HSET := Lib.hid hset; have HBS := Lib.hid hbs; clear hset hbs
              obtain ⟨k0, k1, k2, _⟩ := HP.rbGet HOA.out (List.Mem.head _)
              refine wpPs_S rfl (fun Q' hQ' hL' => ?_)
              go_wp2_with fail
              refine hQ' _ _ ?_; clear hQ' hL' Q' q0 q1 q2 k0 k1 k2
              refine wpPs_nil ?_
              replace HOA := Lib.hid (show HP _ w.heap.size [.fl (owRB W5.heap.size (.slice A10 x'.1.length cap10) x'.2.1 x'.2.2), .fl (owL (.slice A10 x'.1.length cap10) x'.1), bkI g7 b] from HSET.out); clear HSET
              replace HD := Lib.hid (HD.out.trans HBS.out); clear HBS
              generalize World.setCell (World.setCell (World.setCell W15 _ _) _ _) _ _ = W16 at *
              have h1 := H1.out; have h2 := H2.out
              obtain ⟨b52, o53, ea, _, f52, f53, f54⟩ := ReadsI.ix (rdI HD.out HR31.out) h1
              cases ea
              try simp only [Nat.zero_add, Nat.add_zero, Int.toNat_natCast, Int.toNat_zero, Int.toNat_one] at f54
              obtain ⟨b62, o63, ea, _, f62, f63, f64⟩ := ReadsI.ix (rdI HD.out HR31.out) h2
              cases ea
              try simp only [Nat.zero_add, Nat.add_zero, Int.toNat_natCast, Int.toNat_zero, Int.toNat_one, Int.reduceToNat] at f64
              have f53n := f53; try norm_cast at f53n
              have f63n := f63; try norm_cast at f63n
              clear h1 h2
              have f54r := cell_regrown f54
              have f64r := cell_regrown f64
              try go_wp2_with fail
              refine wp_region_quiet_tail 7 (by kernel_rfl) (by kernel_rfl) ?_
              dsimp only [List.take, List.drop]
              repeat (refine wpQH_step (fun K hK => ?_); go_simp; first | (refine hK _ ?_; clear hK K) | (apply Exists.intro; refine ⟨fun _ => ?_, hK _ ?_⟩; (fail); clear hK K))
              refine wpQH_nil ?_
              intro _ hw_
              obtain ⟨⟨dq, osq⟩, hw_⟩ := hw_
              subst hw_
              have hd := below_regrown W16 dq osq
              generalize Go.Sort.grow (redrawn W16 _) _ = W17 at *
              clear f54r f64r f52 f53 f54 f62 f63 f64 f53n f63n
              replace HOA := Lib.hid (HOA.out.below hd)
              replace HD := Lib.hid (HD.out.trans (hd.mono HD.out.size)); clear hd
              have HC := Lib.hid (mJoin_ok2 (its1 := [_, _]) W17 (HTB.out.at_.go HD.out) HOA.out HD.out.size j1)
              go_wp2_with fail
              refine HC.out.mono ?_; rintro e1 W18 ⟨rfl, hp, hb⟩
              replace HOA := Lib.hid (show HP W18 w.heap.size [.fl (owRB W5.heap.size (.slice A10 x'.1.length cap10) x'.2.1 x'.2.2), .fl (owL (.slice A10 x'.1.length cap10) x'.1), bkI g7 b'] from hp); clear hp
              replace HD := Lib.hid (HD.out.trans hb); clear hb HC
              try go_wp2_with fail
              go_meet
              case rel => exact ⟨e, x', b', _, rfl, rfl, Lib.hid hR', HD, HOA⟩
            · obtain ⟨e, x', b', j1, j2, hR', _, _⟩ := cut_rel HR.out l1 l2
              obtain ⟨A9, cap9, hv, _⟩ := HP.open_L HOA.out (List.Mem.tail _ (List.Mem.head _))
              subst hv
              have h1 := H1.out; have h2 := H2.out
              obtain ⟨b52, o53, ea, _, f52, f53, f54⟩ := ReadsI.ix (rdI HD.out HR31.out) h1
              cases ea
              try simp only [Nat.zero_add, Nat.add_zero, Int.toNat_natCast, Int.toNat_zero, Int.toNat_one] at f54
              obtain ⟨b62, o63, ea, _, f62, f63, f64⟩ := ReadsI.ix (rdI HD.out HR31.out) h2
              cases ea
              try simp only [Nat.zero_add, Nat.add_zero, Int.toNat_natCast, Int.toNat_zero, Int.toNat_one, Int.reduceToNat] at f64
              have f53n := f53; try norm_cast at f53n
              have f63n := f63; try norm_cast at f63n
              clear h1 h2
              obtain ⟨k0, k1, k2, _⟩ := HP.rbGet HOA.out (List.Mem.head _)
              have k0r := cell_regrown (w := W13.drew) k0
              have k1r := cell_regrown (w := W13.drew) k1
              have k2r := cell_regrown (w := W13.drew) k2
              have f54r := cell_regrown (w := W13.drew) f54
              have f64r := cell_regrown (w := W13.drew) f64
              go_upto_region 13 with (fail)
              refine wp_region_ph [.H [0, 1, 2, 3, 4, 5, 6], .S [7, 8], .P 9, .P 10, .S [11, 12]] (by kernel_rfl) (by kernel_rfl) ?_
              refine wpPs_H ?_
              repeat (refine wpQI_step rfl rfl (fun K hK => ?_); go_simp; first | (refine hK _ ?_; clear hK K))
              refine wpQI_nil ?_
              intro _ hw_
              obtain ⟨⟨dq, osq⟩, hw_⟩ := hw_
              subst hw_
              have hd := below_regrown_drew W13 dq osq
              generalize Go.Sort.grow (redrawn W13.drew _) _ = W14 at *
              clear k0r k1r k2r f54r f64r k0 k1 k2 f52 f53 f54 f62 f63 f64 f53n f63n
              replace HOA := Lib.hid (HOA.out.below hd)
              replace HD := Lib.hid (HD.out.trans (hd.mono HD.out.size)); clear hd
              have HC := Lib.hid (mC4_ok W14 cap9 (HP.rd_L HOA.out (List.Mem.tail _ (List.Mem.head _))) j2)
              refine wpPs_S rfl (fun Q' hQ' hL' => ?_)
              go_wp2_with fail
              refine HC.out.mono ?_; rintro e1 W15 ⟨V', rfl, hrb, hd⟩
              replace HOA := Lib.hid (HP.rbo (its1 := [_]) HOA.out hd HD.out.size hrb)
              replace HD := Lib.hid (HD.out.trans (hd.mono HD.out.size)); clear hd hrb HC
              go_wp2_with fail
              refine hQ' _ _ ?_; clear hQ' hL' Q'
              repeat (refine wpPs_P rfl rfl (fun K hK => ?_); go_simp; refine hK _ ?_; clear hK K)
              obtain ⟨A10, cap10, hv, _⟩ := HP.open_L HOA.out (List.Mem.tail _ (List.Mem.head _))
              subst hv
              obtain ⟨⟨q0, q1, q2⟩, hset, hbs⟩ := HP.setRB (its1 := []) HOA.out (.slice A10 x'.1.length cap10) x'.2.1 x'.2.2
              have HSET := Lib.hid hset; have HBS := Lib.hid hbs; clear hset hbs
              obtain ⟨k0, k1, k2, _⟩ := HP.rbGet HOA.out (List.Mem.head _)
              refine wpPs_S rfl (fun Q' hQ' hL' => ?_)
              go_wp2_with fail
              refine hQ' _ _ ?_; clear hQ' hL' Q' q0 q1 q2 k0 k1 k2
              refine wpPs_nil ?_
              replace HOA := Lib.hid (show HP _ w.heap.size [.fl (owRB W5.heap.size (.slice A10 x'.1.length cap10) x'.2.1 x'.2.2), .fl (owL (.slice A10 x'.1.length cap10) x'.1), bkI g7 b] from HSET.out); clear HSET
              replace HD := Lib.hid (HD.out.trans HBS.out); clear HBS
              generalize World.setCell (World.setCell (World.setCell W15 _ _) _ _) _ _ = W16 at *
              have h1 := H1.out; have h2 := H2.out
              obtain ⟨b52, o53, ea, _, f52, f53, f54⟩ := ReadsI.ix (rdI HD.out HR31.out) h1
              cases ea
              try simp only [Nat.zero_add, Nat.add_zero, Int.toNat_natCast, Int.toNat_zero, Int.toNat_one] at f54
              obtain ⟨b62, o63, ea, _, f62, f63, f64⟩ := ReadsI.ix (rdI HD.out HR31.out) h2
              cases ea
              try simp only [Nat.zero_add, Nat.add_zero, Int.toNat_natCast, Int.toNat_zero, Int.toNat_one, Int.reduceToNat] at f64
              have f53n := f53; try norm_cast at f53n
              have f63n := f63; try norm_cast at f63n
              clear h1 h2
              have f54r := cell_regrown f54
              have f64r := cell_regrown f64
              try go_wp2_with fail
              refine wp_region_quiet_tail 7 (by kernel_rfl) (by kernel_rfl) ?_
              dsimp only [List.take, List.drop]
              repeat (refine wpQH_step (fun K hK => ?_); go_simp; first | (refine hK _ ?_; clear hK K) | (apply Exists.intro; refine ⟨fun _ => ?_, hK _ ?_⟩; (fail); clear hK K))
              refine wpQH_nil ?_
              intro _ hw_
              obtain ⟨⟨dq, osq⟩, hw_⟩ := hw_
              subst hw_
              have hd := below_regrown W16 dq osq
              generalize Go.Sort.grow (redrawn W16 _) _ = W17 at *
              clear f54r f64r f52 f53 f54 f62 f63 f64 f53n f63n
              replace HOA := Lib.hid (HOA.out.below hd)
              replace HD := Lib.hid (HD.out.trans (hd.mono HD.out.size)); clear hd
              have HC := Lib.hid (mCut_ok2 (its1 := [_, _]) W17 (HTB.out.at_.go HD.out) HOA.out HD.out.size j1)
              go_wp2_with fail
              refine HC.out.mono ?_; rintro e1 W18 ⟨rfl, hp, hb⟩
              replace HOA := Lib.hid (show HP W18 w.heap.size [.fl (owRB W5.heap.size (.slice A10 x'.1.length cap10) x'.2.1 x'.2.2), .fl (owL (.slice A10 x'.1.length cap10) x'.1), bkI g7 b'] from hp); clear hp
              replace HD := Lib.hid (HD.out.trans hb); clear hb HC
              try go_wp2_with fail
              go_meet
              case rel => exact ⟨e, x', b', _, rfl, rfl, Lib.hid hR', HD, HOA⟩
          case rest =>
            clear HR HD HOA
            obtain ⟨e, x', b', V', rfl, rfl, HR, HD, HOA⟩ := hcut
            rename World => W20
            have htx := HR.out.txt
            rw [htx] at HOA
            go_upto_region 15 with (fail)
            have HE := Lib.hid (mErr_ok (c := e) (k := e) (r := true) W20.drew (HTC.out.go (HD.out.trans ((Dr.one W20).below _))) (by show some (decide (e = e)) = some true; simp))
            refine wp_region_ph [.P 0, .P 1, .S [2, 3, 4], .P 5, .P 7, .F 8 6, .S [9, 10, 11], .P 12, .F 14 13, .S [15, 16, 17, 18]] (by kernel_rfl) (by kernel_rfl) ?_
            repeat (refine wpPs_P rfl rfl (fun K hK => ?_); go_simp; refine hK _ ?_; clear hK K)
            refine wpPs_S rfl (fun Q' hQ' hL' => ?_)
            go_wp2_with fail
            refine HE.out.mono ?_; rintro e1 W21 ⟨rfl, hd⟩
            replace HOA := Lib.hid ((HOA.out.dr (Dr.one W20)).below hd)
            replace HD := Lib.hid ((HD.out.trans ((Dr.one W20).below _)).trans (hd.mono (HD.out.trans ((Dr.one W20).below _)).size)); clear hd
            go_wp2_with fail
            refine hQ' _ _ ?_; clear hQ' hL' Q'
            repeat (refine wpPs_P rfl rfl (fun K hK => ?_); go_simp; refine hK _ ?_; clear hK K)
            obtain ⟨A10, cap10, hv, _⟩ := HP.open_L HOA.out (List.Mem.tail _ (List.Mem.head _))
            subst hv
            obtain ⟨k0, k1, k2, _⟩ := HP.rbGet HOA.out (List.Mem.head _)
            refine wpPs_F (.string b'.2.1) rfl rfl rfl (by go_simp) (fun Q' hQ' hL' => ?_)
            clear k0 k1 k2
            have HT := Lib.hid (bkText_ok (its1 := [_, _]) W21 HOA.out HD.out.size)
            go_wp2_with fail
            refine HT.out.mono ?_; rintro e1 W22 ⟨rfl, hp, hb⟩
            replace HOA := Lib.hid (show HP W22 w.heap.size [.fl (owRB W5.heap.size (.slice A10 x'.1.length cap10) b'.2.1 x'.2.2), .fl (owL (.slice A10 x'.1.length cap10) x'.1), bkI g7 b'] from hp)
            replace HD := Lib.hid (HD.out.trans hb); clear hp hb HT HE
            obtain ⟨k0, k1, k2, _⟩ := HP.rbGet HOA.out (List.Mem.head _)
            go_wp2_with fail
            refine hQ' _ _ (by go_simp) ?_; clear hQ' hL' Q'
            have hself : (b'.2.1.toList == b'.2.1.toList) = true := beq_self_eq_true _
            refine wpPs_S rfl (fun Q' hQ' hL' => ?_)
            go_wp2_with fail
            refine hQ' _ _ ?_; clear hQ' hL' Q' hself
            refine wpPs_P rfl rfl (fun K hK => ?_); go_simp; refine hK _ ?_; clear hK K
            refine wpPs_F (.agg #[.slice A10 x'.1.length cap10, .string b'.2.1, .int .i64 x'.2.2]) rfl rfl rfl (by go_simp) (fun Q' hQ' hL' => ?_)
            clear k0 k1 k2
            have HT := Lib.hid (brambleweir_book_Book_Lines_ok W22 (HP.rdBk (its1 := [_, _]) HOA.out) (lines_ev HR.out.inv))
            go_wp2_with fail
            refine HT.out.mono ?_; rintro e1 W23 ⟨V11, rfl, ho, hd⟩
            replace HOA := Lib.hid (HOA.out.call hd HD.out.size ho)
            replace HD := Lib.hid (HD.out.trans (hd.mono HD.out.size)); clear ho hd HT
            obtain ⟨A11, cap11, hv, _⟩ := HP.open_L HOA.out (List.Mem.head _)
            subst hv
            obtain ⟨k0, k1, k2, _⟩ := HP.rbGet HOA.out (List.Mem.tail _ (List.Mem.head _))
            go_wp2_with fail
            refine hQ' _ _ (by go_simp) ?_; clear hQ' hL' Q' k0 k1 k2
            have ha := all4_ok (t := b'.2.1) (n := x'.2.2) (cap := cap10) W23 (HP.rd_L HOA.out (List.Mem.tail _ (List.Mem.tail _ (List.Mem.head _)))) HR.out.size.1
            rw [← all_eq HR.out] at ha
            have HT := Lib.hid ha; clear ha
            refine wpPs_S rfl (fun Q' hQ' hL' => ?_)
            go_wp2_with fail
            refine HT.out.mono ?_; rintro e1 W24 ⟨V12, rfl, ho, hd⟩
            replace HOA := Lib.hid (HOA.out.call hd HD.out.size ho)
            replace HD := Lib.hid (HD.out.trans (hd.mono HD.out.size)); clear ho hd HT
            obtain ⟨A12, cap12, hv, _⟩ := HP.open_L HOA.out (List.Mem.head _)
            subst hv
            have HT := Lib.hid (SE_Lines_ok W24 cap11 (HP.rd_L HOA.out (List.Mem.tail _ (List.Mem.head _))) cap12 (HP.rd_L HOA.out (List.Mem.head _)) (se_same (linesOf b'.1) (by have := linesOf_le b'.1; omega)))
            go_wp2_with fail
            refine HT.out.mono ?_; rintro e1 W25 ⟨rfl, hd⟩
            replace HOA := Lib.hid (HOA.out.dr hd)
            replace HD := Lib.hid (HD.out.trans (hd.below _)); clear hd HT
            go_wp2_with fail
            refine hQ' _ _ ?_; clear hQ' hL' Q'
            refine wpPs_nil ?_
            go_wp2_with fail
            go_roundg (71 - (k + 1))
            case measure => omega
            case rel => exact ⟨k + 1, x', b', _, by go_num, by omega, rfl, HR, HD, Lib.hid (by rw [htx]; exact HOA.out.sub (.cons _ (.cons _ (.cons₂ _ (.cons₂ _ (.cons₂ _ .slnil))))))⟩
      · obtain ⟨A10, cap10, hv, _⟩ := HP.open_L HOA.out (List.Mem.tail _ (List.Mem.head _))
        subst hv
        obtain ⟨k0, k1, k2, _⟩ := HP.rbGet HOA.out (List.Mem.head _)
        obtain ⟨r, r1, r2, _⟩ := far_rel HR.out i j
        have HT := Lib.hid (mF4_ok W13 cap10 (HP.rd_L HOA.out (List.Mem.tail _ (List.Mem.head _))) r2)
        go_wp2_with fail
        refine HT.out.mono ?_; rintro e1 W26 ⟨rfl, hd⟩
        replace HOA := Lib.hid (HOA.out.below hd)
        replace HD := Lib.hid (HD.out.trans (hd.mono HD.out.size)); clear hd HT k0 k1 k2
        have HT := Lib.hid (brambleweir_book_Book_Far_ok W26 (HP.rdBk (its1 := [_, _]) HOA.out) r1)
        go_wp2_with fail
        refine HT.out.mono ?_; rintro e1 W27 ⟨rfl, hd⟩
        replace HD := Lib.hid (HD.out.trans (hd.mono HD.out.size)); clear hd HT HOA
        have HE := Lib.hid (mErr_ok (c := r.2) (k := r.2) (r := true) W27 (HTC.out.go HD.out) (by show some (decide (r.2 = r.2)) = some true; simp))
        have hb : (r.1 == r.1) = true := beq_self_eq_true _
        go_wp2_with fail
        refine HE.out.mono ?_; rintro e1 W28 ⟨rfl, hd⟩
        go_wp2_with fail
        go_ret
        exact ⟨by first | rfl | simp, HD.out.trans (hd.mono HD.out.size)⟩
    · obtain ⟨A10, cap10, hv, _⟩ := HP.open_L HOA.out (List.Mem.tail _ (List.Mem.head _))
      subst hv
      obtain ⟨k0, k1, k2, _⟩ := HP.rbGet HOA.out (List.Mem.head _)
      obtain ⟨r, r1, r2, _⟩ := far_rel HR.out i j
      have HT := Lib.hid (mF4_ok W13 cap10 (HP.rd_L HOA.out (List.Mem.tail _ (List.Mem.head _))) r2)
      go_wp2_with fail
      refine HT.out.mono ?_; rintro e1 W26 ⟨rfl, hd⟩
      replace HOA := Lib.hid (HOA.out.below hd)
      replace HD := Lib.hid (HD.out.trans (hd.mono HD.out.size)); clear hd HT k0 k1 k2
      have HT := Lib.hid (brambleweir_book_Book_Far_ok W26 (HP.rdBk (its1 := [_, _]) HOA.out) r1)
      go_wp2_with fail
      refine HT.out.mono ?_; rintro e1 W27 ⟨rfl, hd⟩
      replace HD := Lib.hid (HD.out.trans (hd.mono HD.out.size)); clear hd HT HOA
      have HE := Lib.hid (mErr_ok (c := r.2) (k := r.2) (r := true) W27 (HTC.out.go HD.out) (by show some (decide (r.2 = r.2)) = some true; simp))
      have hb : (r.1 == r.1) = true := beq_self_eq_true _
      go_wp2_with fail
      refine HE.out.mono ?_; rintro e1 W28 ⟨rfl, hd⟩
      go_wp2_with fail
      go_ret
      exact ⟨by first | rfl | simp, HD.out.trans (hd.mono HD.out.size)⟩
end Go.Proofs.YthmfgnpkbcbkcaaDoor
