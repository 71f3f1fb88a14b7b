import Derived.Test.YtekfgkeimlidhaaGreatDoorBkN
import Derived.Test.YtekfgkeimlidhaaGreatDoorBox
import Derived.Test.YtekfgkeimlidhaaGreatDoorQB
import Derived.Test.YtekfgkeimlidhaaGreatDoorAst
import Derived.Test.YtekfgkeimlidhaaGreatDoorMSt
import Derived.Test.YtekfgkeimlidhaaGreatDoorL2
import Derived.Test.YtekfgkeimlidhaaGreatDoorCmp
import Derived.Test.YtekfgkeimlidhaaGreatDoorClo
import Derived.Test.YtekfgkeimlidhaaGreatDoorGR
set_option linter.all false
set_option maxRecDepth 100000
namespace Go.Proofs.YtekfgkeimlidhaaGreatDoor
open Go.RowKit
attribute [local go_sem] Oper.semAt_some
def brambleweir_book_Book_Lines_L2 (F : Nat) (v3 : Int) : List Nat → (List (Int × Int)) → Option (List (Int × Int))
  | [], v2 => some (v2)
  | x :: xs, v2 => (app v2 (v3, (x : Int))).bind fun y1 => brambleweir_book_Book_Lines_L2 F v3 xs (y1)
theorem brambleweir_book_Book_Lines_L2_n (F : Nat) (v3 : Int) (v2 : List (Int × Int)) : brambleweir_book_Book_Lines_L2 F v3 [] v2 = some (v2) := by rw [brambleweir_book_Book_Lines_L2]
theorem brambleweir_book_Book_Lines_L2_c (F : Nat) (v3 : Int) (v2 : List (Int × Int)) (x : Nat) (xs : List Nat) : brambleweir_book_Book_Lines_L2 F v3 (x :: xs) v2 = ((app v2 (v3, (x : Int))).bind fun y1 => brambleweir_book_Book_Lines_L2 F v3 xs (y1)) := by rw [brambleweir_book_Book_Lines_L2]
def brambleweir_book_Book_Lines_L1 (F : Nat) (v0 : List Nat) : Nat → (Int) → (List (Int × Int)) → Option (List (Int × Int))
  | 0, _, _ => none
  | g+1, j, v2 => if j < ((v0).length : Int) then (ix v0 j).bind fun y => (sBelow (j)).bind fun y4 => (sNot y y4).bind fun y5 => (sEach y5).bind fun y3 => (brambleweir_book_Book_Lines_L2 F (j) y3 (v2)).bind fun o2 => brambleweir_book_Book_Lines_L1 F v0 g (wrap64 (j + 1)) (o2) else some (v2)
theorem brambleweir_book_Book_Lines_L1_0 (F : Nat) (v0 : List Nat) (v2 : List (Int × Int)) (j : Int) : brambleweir_book_Book_Lines_L1 F v0 0 j v2 = none := by rw [brambleweir_book_Book_Lines_L1]
theorem brambleweir_book_Book_Lines_L1_s (F g : Nat) (v0 : List Nat) (v2 : List (Int × Int)) (j : Int) : brambleweir_book_Book_Lines_L1 F v0 (g+1) j v2 = (if j < ((v0).length : Int) then (ix v0 j).bind fun y => (sBelow (j)).bind fun y4 => (sNot y y4).bind fun y5 => (sEach y5).bind fun y3 => (brambleweir_book_Book_Lines_L2 F (j) y3 (v2)).bind fun o2 => brambleweir_book_Book_Lines_L1 F v0 g (wrap64 (j + 1)) (o2) else some (v2)) := by rw [brambleweir_book_Book_Lines_L1]
def brambleweir_book_Book_Lines (F : Nat) (v0 : List Nat) : Option (List (Int × Int)) := (brambleweir_book_Book_Lines_L1 F (v0) F (0) ([])).bind fun o6 => some (o6)
theorem bk8 {l : List Nat} {n0 n1 n2 n3 n4 n5 n6 n7 : Nat} (hl : l.length = 8) (h0 : n0 = l.getD 0 0) (h1 : n1 = l.getD 1 0) (h2 : n2 = l.getD 2 0) (h3 : n3 = l.getD 3 0) (h4 : n4 = l.getD 4 0) (h5 : n5 = l.getD 5 0) (h6 : n6 = l.getD 6 0) (h7 : n7 = l.getD 7 0) : l = [n0, n1, n2, n3, n4, n5, n6, n7] := by
  match l, hl with
  | [a, b, c, d, e, f, g, h], _ => subst h0 h1 h2 h3 h4 h5 h6 h7; rfl
theorem bk8ix {l : List Nat} {n0 n1 n2 n3 n4 n5 n6 n7 y : Nat} {j : Int} (h : l = [n0, n1, n2, n3, n4, n5, n6, n7]) (hy : ix l j = some y) :
    (#[Value.int .u64 ((n0 : Nat) : Int), Value.int .u64 ((n1 : Nat) : Int), Value.int .u64 ((n2 : Nat) : Int), Value.int .u64 ((n3 : Nat) : Int), Value.int .u64 ((n4 : Nat) : Int), Value.int .u64 ((n5 : Nat) : Int), Value.int .u64 ((n6 : Nat) : Int), Value.int .u64 ((n7 : Nat) : Int)] : Array Value)[j.toNat]? = some (.int .u64 ((y : Nat) : Int)) := by
  have h1 : l[j.toNat]? = some y := by
    unfold ix at hy
    split at hy
    · exact hy
    · cases hy
  have h2 : (#[Value.int .u64 ((n0 : Nat) : Int), Value.int .u64 ((n1 : Nat) : Int), Value.int .u64 ((n2 : Nat) : Int), Value.int .u64 ((n3 : Nat) : Int), Value.int .u64 ((n4 : Nat) : Int), Value.int .u64 ((n5 : Nat) : Int), Value.int .u64 ((n6 : Nat) : Int), Value.int .u64 ((n7 : Nat) : Int)] : Array Value) = (l.map fun m : Nat => Value.int .u64 (m : Int)).toArray := by rw [h]; rfl
  rw [h2, List.getElem?_toArray, List.getElem?_map, h1]; rfl
theorem bk8run {cs : Array Value} {j : Int} {v : Int} {W : World} (h : cs[j.toNat]? = some (.int .u64 v)) (hj : 0 ≤ j ∧ j < 8) : (Instr.index 49 (.agg cs) (.int .i64 j)).run Tryz.prog W = .ok (.int .u64 v) W := by
  unfold Instr.index
  simp [run_underlying Tryz.underlying49, asIntOf, hj, Tryz.sizeOf48, part, Tryz.isAgg48, h]
set_option maxRecDepth 100000 in
set_option maxHeartbeats 4000000 in
theorem brambleweir_book_Book_Lines_ok {F : Nat} {v0 : List Nat} {g0 : Nat} {r : List (Int × Int)} (w : World) (hr0 : ReadsBk w g0 v0) (h : brambleweir_book_Book_Lines F v0 = some r) :
    Calls Tryz.prog 41 #[.pointer (some ⟨g0, 0, none⟩)] w (PostG (fun v => v) (fun v => owL v r) w.heap.size w) := by
  have HR0 := Lib.hid hr0; clear hr0
  have HD := Lib.hid (Below.refl w.heap.size w)
  have HOA := Lib.hid (HP.nil (W := w) (B := w.heap.size))
  unfold brambleweir_book_Book_Lines at h
  have HM := Lib.hid h; clear h
  have HMK := Lib.hid (Marks.nil w.heap.size w)
  refine (callsIn_wide (n := 5)).1 ?_
  refine callsIn_of_wp_marks Tryz.func41 rfl trivial ?_ rfl
  simp only [Tryz.ntmps41, List.size_toArray, List.length_cons, List.length_nil, Nat.reduceAdd, Nat.reduceSub, Array.replicate_succ, Array.replicate_zero, List.push_toArray, List.append_toArray, List.nil_append, List.cons_append]
  refine wpIn_wide.2 ?_
  replace HOA := Lib.hid (show HP _ _ (.fl (owL (.slice none 0 0) ([])) :: _) from HOA.out.pushNil _ _)
  go_upto_region 2 with (fail)
  have hd : Below w.heap.size w (w.alloc (.cells #[(.slice none 0 0)] 42)) := (Below.refl _ _).alloc (Nat.le_refl _) _
  have ho := owX_ok w 42 ((.slice none 0 0))
  generalize hW : World.alloc w _ = W2 at *
  clear hW
  replace HOA := Lib.hid (HOA.out.call hd HD.out.size ho); clear ho
  replace HD := Lib.hid (HD.out.trans (hd.mono HD.out.size))
  replace HMK := Lib.hid (HMK.out.nc (NC.of_below hd))
  clear hd
  have HRB := Lib.hid (rdBk HD.out HR0.out)
  obtain ⟨n0, hn0⟩ : ∃ n, n = v0.getD 0 0 := ⟨_, rfl⟩
  have hm0 := HRB.out.2.2 0 (by omega)
  rw [← hn0] at hm0
  obtain ⟨n1, hn1⟩ : ∃ n, n = v0.getD 1 0 := ⟨_, rfl⟩
  have hm1 := HRB.out.2.2 1 (by omega)
  rw [← hn1] at hm1
  obtain ⟨n2, hn2⟩ : ∃ n, n = v0.getD 2 0 := ⟨_, rfl⟩
  have hm2 := HRB.out.2.2 2 (by omega)
  rw [← hn2] at hm2
  obtain ⟨n3, hn3⟩ : ∃ n, n = v0.getD 3 0 := ⟨_, rfl⟩
  have hm3 := HRB.out.2.2 3 (by omega)
  rw [← hn3] at hm3
  obtain ⟨n4, hn4⟩ : ∃ n, n = v0.getD 4 0 := ⟨_, rfl⟩
  have hm4 := HRB.out.2.2 4 (by omega)
  rw [← hn4] at hm4
  obtain ⟨n5, hn5⟩ : ∃ n, n = v0.getD 5 0 := ⟨_, rfl⟩
  have hm5 := HRB.out.2.2 5 (by omega)
  rw [← hn5] at hm5
  obtain ⟨n6, hn6⟩ : ∃ n, n = v0.getD 6 0 := ⟨_, rfl⟩
  have hm6 := HRB.out.2.2 6 (by omega)
  rw [← hn6] at hm6
  obtain ⟨n7, hn7⟩ : ∃ n, n = v0.getD 7 0 := ⟨_, rfl⟩
  have hm7 := HRB.out.2.2 7 (by omega)
  rw [← hn7] at hm7
  have HN := Lib.hid (show v0 = [n0, n1, n2, n3, n4, n5, n6, n7] from bk8 HRB.out.2.1 hn0 hn1 hn2 hn3 hn4 hn5 hn6 hn7)
  clear hn0 hn1 hn2 hn3 hn4 hn5 hn6 hn7
  go_wp2_with fail
  clear hm0 hm1 hm2 hm3 hm4 hm5 hm6 hm7
  obtain ⟨o4, ho, hm⟩ := obind HM.out
  replace HM := Lib.hid hm; have HL1 := Lib.hid ho; clear hm ho
  refine wp_loop_marks _ [false, false, false, false, true, true, true, false, false, false, false, true, true, true, true, true, true, true, true, true, false, true, true, true, true, true, true, true, false] (fun gg fk1 dsk1 wr => ∃ (j7 : Int) (x5 : List (Int × Int)) (V6 : Value), (fk1 11) = .int .i64 j7 ∧ Hid (Below w.heap.size w wr) ∧ Hid (HP wr w.heap.size [.fl (owX 42 (some ⟨w.heap.size, 0, none⟩) (V6)), .fl (owL V6 (x5))]) ∧ Hid (Marks w.heap.size dsk1 wr) ∧ Hid (brambleweir_book_Book_Lines_L1 F (v0) gg j7 x5 = some o4)) F _ (by simp only [agreeB, and_self, true_and]) ⟨0, [], (.slice none 0 0), rfl, HD, HOA, HMK, HL1⟩ ?round
  case round =>
    intro gk fk1 dsk1 wr hrel _ _ hJ1 _
    obtain ⟨j7, x5, V6, hf8, HD, HOA, HMK, HL1⟩ := hrel
    simp only [setB, Nat.reduceAdd, hf8]
    clear hf8
    rename World => W9
    cases gk with
    | zero => exact absurd ((brambleweir_book_Book_Lines_L1_0 ..).symm.trans HL1.out) (by intro h; cases h)
    | succ g1 =>
      replace HL1 := Lib.hid ((brambleweir_book_Book_Lines_L1_s ..).symm.trans HL1.out)
      by_cases hc10 : j7 < ((v0).length : Int)
      · replace HL1 := Lib.hid (ifT hc10 HL1.out)
        have hc10b : j7 < 8 := by have := HRB.out.2.1; omega
        have HK11 := Lib.hid hc10
        obtain ⟨y12, hy13, hm⟩ := obind HL1.out
        replace HL1 := Lib.hid hm; clear hm
        obtain ⟨f17, f18, f19⟩ := (rdBk HD.out HR0.out).ix hy13
        try simp only [Int.toNat_natCast, Int.toNat_zero, Int.toNat_one] at f19
        have f20 : (#[Value.int .u64 ((n0 : Nat) : Int), Value.int .u64 ((n1 : Nat) : Int), Value.int .u64 ((n2 : Nat) : Int), Value.int .u64 ((n3 : Nat) : Int), Value.int .u64 ((n4 : Nat) : Int), Value.int .u64 ((n5 : Nat) : Int), Value.int .u64 ((n6 : Nat) : Int), Value.int .u64 ((n7 : Nat) : Int)] : Array Value)[j7.toNat]? = some (.int .u64 ((y12 : Nat) : Int)) 
            := bk8ix HN.out hy13
        have f21 : (Instr.index 49 (.agg #[Value.int .u64 ((n0 : Nat) : Int), Value.int .u64 ((n1 : Nat) : Int), Value.int .u64 ((n2 : Nat) : Int), Value.int .u64 ((n3 : Nat) : Int), Value.int .u64 ((n4 : Nat) : Int), Value.int .u64 ((n5 : Nat) : Int), Value.int .u64 ((n6 : Nat) : Int), Value.int .u64 ((n7 : Nat) : Int)]) (.int .i64 j7)).run Tryz.prog W9 = .ok (.int .u64 ((y12 : Nat) : Int)) W9 := bk8run f20 ⟨f17, hc10b⟩
        have HY21 := Lib.hid hy13; clear hy13
        go_upto_region 5 with (fail)
        try clear hc10b f20 f21
        have hd : Below W9.heap.size W9 (W9.alloc (.cells #[.int .i64 (j7)] 3)) := (Below.refl _ _).alloc (Nat.le_refl _) _
        have ho := owX_ok W9 3 (.int .i64 (j7))
        generalize hW : World.alloc W9 _ = W22 at *
        clear hW
        try clear hc10 f17 f18 f19
        replace HOA := Lib.hid (HOA.out.call hd HD.out.size ho); clear ho
        replace HD := Lib.hid (HD.out.trans (hd.mono HD.out.size))
        replace HMK := Lib.hid (HMK.out.nc (NC.of_below hd))
        clear hd
        have fb24 := HP.bx HOA.out (List.Mem.head _)
        obtain ⟨y27, hy25, hm⟩ := obind HL1.out
        replace HL1 := Lib.hid hm; clear hm
        have HC26 := sBelow_ok W22  hy25
        clear hy25
        replace HC26 := Lib.hid HC26
        obtain ⟨y28, hy29, hm⟩ := obind HL1.out
        replace HL1 := Lib.hid hm; clear hm
        obtain ⟨f30, hy29⟩ := sNot_some hy29; subst hy29
        obtain ⟨y31, hy32, hm⟩ := obind HL1.out
        replace HL1 := Lib.hid hm; clear hm
        obtain ⟨hlt, hml⟩ := s_of hy32
        have HLT34 := Lib.hid hlt; have HML35 := Lib.hid hml; clear hlt hml hy32
        obtain ⟨o33, ho, hm⟩ := obind HL1.out
        replace HL1 := Lib.hid hm; have HL2 := Lib.hid ho; clear hm ho
        go_wp2_with fail
        refine HC26.out.mono ?_; rintro e w' ⟨rfl, rfl⟩
        go_wp2_with fail
        refine (each_any _ _).mono ?_; rintro e w' ⟨rfl, rfl⟩
        go_wp2_with fail
        try clear fb24 f30
        generalize ((Pl.ndiff y12 y27)) = me36 at *
        have hd : Below W22.heap.size W22 (W22.alloc (.cells #[.int .u64 (((me36) : Nat) : Int)] 48)) := (Below.refl _ _).alloc (Nat.le_refl _) _
        have ho := owX_ok W22 48 (.int .u64 (((me36) : Nat) : Int))
        generalize hW : World.alloc W22 _ = W37 at *
        clear hW
        replace HOA := Lib.hid (HOA.out.call hd HD.out.size ho); clear ho
        replace HD := Lib.hid (HD.out.trans (hd.mono HD.out.size))
        replace HMK := Lib.hid (HMK.out.nc (NC.of_below hd))
        clear hd
        have HDk41 := HD
        refine (wpIn_wide (n := 5)).1 (wp_each2 (m := me36) (Bs := W22.heap.size) (by omega) HLT34.out rfl (HP.bx HOA.out (List.Mem.head _)) rfl (fun rest W => ∃ (x39 : List (Int × Int)) (V40 : Value), Hid (Below w.heap.size w W) ∧ Hid (NC W37 W) ∧ Hid (HP W w.heap.size [.fl (owX 48 (some ⟨W22.heap.size, 0, none⟩) (.int .u64 (((me36) : Nat) : Int))), .fl (owX 3 (some ⟨W9.heap.size, 0, none⟩) (.int .i64 (j7))), .fl (owX 42 (some ⟨w.heap.size, 0, none⟩) (V40)), .fl (owL V40 (x39))]) ∧ Hid (brambleweir_book_Book_Lines_L2 F (j7) rest x39 = some o33)) (fun _ _ => False) ?hI_q63 ?hIx_q63 ⟨x5, V6, HD, Lib.hid (NC.refl _), HOA, by rw [HML35.out]; exact HL2⟩ ?a1_q63 ?assign_q63 ?body_q63 ?done_q63 ?stop_q63)
        case hI_q63 =>
          rintro rest W W' ⟨x39, V40, hd, hn, hh, hl⟩ hk
          exact ⟨x39, V40, Lib.hid (hk.below hd.out HDk41.out.size (Nat.le_refl _)), Lib.hid (hn.out.keepC hk (Nat.le_refl _)), Lib.hid (hh.out.keepC hk), hl⟩
        case hIx_q63 => exact fun _ _ _ h _ => h
        case assign_q63 =>
          intro l x W K hK
          gi_wp2
          exact hK
        case body_q63 =>
          rintro l42 xn43 rest W44 hx ⟨x39, V40, HD, HN, HOA, HL2⟩ _ _ _ hJ46 hJx47 _ hQ45
          replace HL2 := Lib.hid ((brambleweir_book_Book_Lines_L2_c ..).symm.trans HL2.out)
          have HNB := Lib.hid (NC.refl W44)
          have fb48 := HP.bx HOA.out (List.Mem.tail _ (List.Mem.head _))
          obtain ⟨A49, cap50, he, _⟩ := HP.open_L HOA.out (List.Mem.tail _ (List.Mem.tail _ (List.Mem.tail _ (List.Mem.head _))))
          subst he
          have fb51 := HP.bx HOA.out (List.Mem.tail _ (List.Mem.tail _ (List.Mem.head _)))
          obtain ⟨y52, hy53, hm⟩ := obind HL2.out
          replace HL2 := Lib.hid hm; clear hm
          obtain ⟨f54, hy53⟩ := app_some hy53; subst hy53
          obtain ⟨V55, W56, hrun, hoa, hb, hn⟩ := run_appL (e' := 89) (y := ((j7, (xn43 : Int))).1) (z := ((j7, (xn43 : Int))).2) (L1 := [_, _, _]) W44 42 42 Tryz.underlying42 HOA.out f54 HD.out.size
          obtain ⟨A57, cap58, he, _⟩ := HP.open_L hoa (List.Mem.tail _ (List.Mem.tail _ (List.Mem.tail _ (List.Mem.head _))))
          obtain ⟨n59, hn3⟩ : ∃ n, List.length (x39 ++ [(j7, (xn43 : Int))]) = n := ⟨_, rfl⟩
          rw [hn3] at he; subst he; clear hn3
          obtain ⟨q0, q1, hp, hb2⟩ := HP.setBx (its1 := [_, _]) hoa (.slice A57 n59 cap58)
          have HP_ := Lib.hid hp; have HB_ := Lib.hid hb2; clear hp hb2 hoa
          have HR_ := Lib.hid hrun; have HN_ := Lib.hid hn; have HOB := Lib.hid hb; clear hrun hn hb
          gi_wp2_with (gi_at_builtin; refine wpIn_appRun HR_.out rfl rfl rfl rfl ?_)
          have hp := HP_.out; clear HP_ HR_
          replace HNB := Lib.hid (HNB.out.trans (HN_.out.trans (NC.setCell W56 ⟨w.heap.size, 0, none⟩ (.slice A57 n59 cap58))))
          have hb := HOB.out.trans HB_.out
          generalize hW : World.setCell W56 _ _ = W60 at *
          clear hW HB_ HOB HN_
          try clear q0 q1 fb48 fb51
          replace HOA := Lib.hid (show HP W60 w.heap.size [.fl (owX 48 (some ⟨W22.heap.size, 0, none⟩) (.int .u64 (((me36) : Nat) : Int))), .fl (owX 3 (some ⟨W9.heap.size, 0, none⟩) (.int .i64 (j7))), .fl (owX 42 (some ⟨w.heap.size, 0, none⟩) ((.slice A57 n59 cap58))), .fl (owL (.slice A57 n59 cap58) ((x39 ++ [(j7, (xn43 : Int))])))] from hp); clear hp
          replace HD := Lib.hid (HD.out.trans hb); clear hb
          gi_wp2_with fail
          exact ⟨HNB.out, HP.bx HOA.out (List.Mem.head _), hJ46 _ ⟨(x39 ++ [(j7, (xn43 : Int))]), (.slice A57 n59 cap58), HD, Lib.hid (HN.out.trans HNB.out), HOA, HL2⟩⟩
        case done_q63 =>
          rintro D61 W62 hD ⟨x39, V40, HD, HN, HOA, HL2⟩ hK
          have hov := Option.some.inj ((brambleweir_book_Book_Lines_L2_n ..).symm.trans HL2.out)
          replace HMK := Lib.hid (HMK.out.push HN.out hD HDk41.out.size hK); clear hK hD HN
          subst hov
          have hm := HL1.out; try dsimp only at hm
          replace HL1 := Lib.hid hm; clear hm
          go_wp2_with fail
          replace HOA := Lib.hid (HOA.out.sub (.cons _ (.cons _ (.cons₂ _ (.cons₂ _ .slnil)))))
          refine Handed.intro g1 (by omega) ?_
          refine hJ1 _ _ _ ⟨by simp only [agreeB, and_self, true_and], (wrap64 (j7 + 1)), x39, V40, rfl, HD, HOA, HMK, HL1⟩
        case stop_q63 => exact fun _ _ _ _ h _ => h.elim
      · replace HL1 := Lib.hid (ifF hc10 HL1.out)
        have hc10d := decide_eq_false hc10
        have hc10b : ¬ j7 < 8 := by have := HRB.out.2.1; omega
        have HK11 := Lib.hid hc10
        obtain rfl := Option.some.inj HL1.out
        have hm := HM.out; try dsimp only at hm
        replace HM := Lib.hid hm; clear hm
        obtain ⟨A64, cap65, he, _⟩ := HP.open_L HOA.out (List.Mem.tail _ (List.Mem.head _))
        subst he
        have fb66 := HP.bx HOA.out (List.Mem.head _)
        obtain rfl := Option.some.inj HM.out
        go_wp2_with fail
        try clear hc10 hc10d fb66
        refine leave_marks (B := w.heap.size) _ _ HMK.out (fun W' => results_tmp rfl _ _ _) (fun W' hk => ⟨_, rfl, (HOA.out.keepC hk).get (List.Mem.tail _ (List.Mem.head _)), hk.below HD.out (Nat.le_refl _) (Nat.le_refl _)⟩)
end Go.Proofs.YtekfgkeimlidhaaGreatDoor
set_option linter.all false
set_option maxRecDepth 100000
namespace Go.Proofs.YtekfgkeimlidhaaGreatDoor
open Go.RowKit
attribute [local go_sem] Oper.semAt_some
def brambleweir_book_Book_Far_L2 (F : Nat) (v0 : List Nat) : List Nat → (Nat) → Option (Nat)
  | [], v7 => some (v7)
  | x :: xs, v7 => (ix v0 (x : Int)).bind fun y4 => (sOr v7 y4).bind fun y5 => brambleweir_book_Book_Far_L2 F v0 xs (y5)
theorem brambleweir_book_Book_Far_L2_n (F : Nat) (v0 : List Nat) (v7 : Nat) : brambleweir_book_Book_Far_L2 F v0 [] v7 = some (v7) := by rw [brambleweir_book_Book_Far_L2]
theorem brambleweir_book_Book_Far_L2_c (F : Nat) (v0 : List Nat) (v7 : Nat) (x : Nat) (xs : List Nat) : brambleweir_book_Book_Far_L2 F v0 (x :: xs) v7 = ((ix v0 (x : Int)).bind fun y4 => (sOr v7 y4).bind fun y5 => brambleweir_book_Book_Far_L2 F v0 xs (y5)) := by rw [brambleweir_book_Book_Far_L2]
def brambleweir_book_Book_Far_L1 (F : Nat) (v0 : List Nat) (v2 : Int) : Nat → (Nat) → (Int) → Option ((Nat × Int) ⊕ (Int × Int))
  | 0, _, _ => none
  | g+1, v5, v6 => ((sHas (v5) (v2)).bind fun y3 => if y3 = true then some (.inr ((v6, 0))) else (sEach v5).bind fun y7 => (brambleweir_book_Book_Far_L2 F (v0) y7 (v5)).bind fun o6 => (if (o6 == v5) = true then some (.inr (((-1), 0))) else brambleweir_book_Book_Far_L1 F v0 v2 g (o6) ((wrap64 (v6 + 1)))))
theorem brambleweir_book_Book_Far_L1_0 (F : Nat) (v0 : List Nat) (v2 : Int) (v5 : Nat) (v6 : Int) : brambleweir_book_Book_Far_L1 F v0 v2 0 v5 v6 = none := by rw [brambleweir_book_Book_Far_L1]
theorem brambleweir_book_Book_Far_L1_s (F g : Nat) (v0 : List Nat) (v2 : Int) (v5 : Nat) (v6 : Int) : brambleweir_book_Book_Far_L1 F v0 v2 (g+1) v5 v6 = (((sHas (v5) (v2)).bind fun y3 => if y3 = true then some (.inr ((v6, 0))) else (sEach v5).bind fun y7 => (brambleweir_book_Book_Far_L2 F (v0) y7 (v5)).bind fun o6 => (if (o6 == v5) = true then some (.inr (((-1), 0))) else brambleweir_book_Book_Far_L1 F v0 v2 g (o6) ((wrap64 (v6 + 1)))))) := by rw [brambleweir_book_Book_Far_L1]
def brambleweir_book_Book_Far (F : Nat) (v0 : List Nat) (v1 : Int) (v2 : Int) : Option (Int × Int) := ((core_All F ([v1, v2]) (0) (7)).bind fun y1 => if y1 = true then (sWith (0) (v1)).bind fun y2 => (brambleweir_book_Book_Far_L1 F (v0) (v2) F (y2) (0)).bind fun o8 => match o8 with | .inr r => some (r) | .inl _ => none else some ((0, 1)))
set_option maxRecDepth 100000 in
set_option maxHeartbeats 4000000 in
theorem brambleweir_book_Book_Far_ok {F : Nat} {v0 : List Nat} {g0 : Nat} {v1 : Int} {v2 : Int} {r : Int × Int} (w : World) (hr0 : ReadsBk w g0 v0) (h : brambleweir_book_Book_Far F v0 v1 v2 = some r) :
    Calls Tryz.prog 39 #[.pointer (some ⟨g0, 0, none⟩), .int .i64 v1, .int .i64 v2] w fun e w' => e = .returned (.tuple #[(.int .i64 r.1), (errV 91 r.2)]) ∧ Below w.heap.size w w' := by
  have HR0 := Lib.hid hr0; clear hr0
  have HD := Lib.hid (Below.refl w.heap.size w)
  have HOA := Lib.hid (HP.nil (W := w) (B := w.heap.size))
  unfold brambleweir_book_Book_Far at h
  have HM := Lib.hid h; clear h
  have HMK := Lib.hid (Marks.nil w.heap.size w)
  refine (callsIn_wide (n := 5)).1 ?_
  refine callsIn_of_wp_marks Tryz.func39 rfl trivial ?_ rfl
  simp only [Tryz.ntmps39, List.size_toArray, List.length_cons, List.length_nil, Nat.reduceAdd, Nat.reduceSub, Array.replicate_succ, Array.replicate_zero, List.push_toArray, List.append_toArray, List.nil_append, List.cons_append]
  refine wpIn_wide.2 ?_
  go_upto_region 1 with (fail)
  have hd : Below w.heap.size w (w.alloc (.cells #[.pointer (some ⟨g0, 0, none⟩)] 24)) := (Below.refl _ _).alloc (Nat.le_refl _) _
  have ho := owX_ok w 24 (.pointer (some ⟨g0, 0, none⟩))
  generalize hW : World.alloc w _ = W1 at *
  clear hW
  replace HOA := Lib.hid (HOA.out.call hd HD.out.size ho); clear ho
  replace HD := Lib.hid (HD.out.trans (hd.mono HD.out.size))
  replace HMK := Lib.hid (HMK.out.nc (NC.of_below hd))
  clear hd
  have hd : Below W1.heap.size W1 (World.alloc W1 (.cells #[Value.int .i64 (v1), Value.int .i64 (v2)] 3)) := (Below.refl _ _).alloc (Nat.le_refl _) _
  have ho : (owI (.slice (some ⟨W1.heap.size, 0, none⟩) 2 2) [v1, v2]).ok (World.alloc W1 (.cells #[Value.int .i64 (v1), Value.int .i64 (v2)] 3)) W1.heap.size := litI_ok W1 [v1, v2] (by unfold maxLen; simp)
  replace HOA := Lib.hid (HOA.out.call hd HD.out.size ho); clear ho
  replace HD := Lib.hid (HD.out.trans (hd.mono HD.out.size))
  replace HMK := Lib.hid (HMK.out.nc (NC.of_below hd))
  clear hd
  obtain ⟨y7, hy5, hm⟩ := obind HM.out
  replace HM := Lib.hid hm; clear hm
  have HC6 := core_All_ok (World.alloc W1 (.cells #[Value.int .i64 (v1), Value.int .i64 (v2)] 3)) 2 (HP.rd_I HOA.out (List.Mem.head _)) hy5
  clear hy5
  try rw [← HP.len_I HOA.out (List.Mem.head _)] at HC6
  replace HC6 := Lib.hid HC6
  go_wp2_with fail
  refine HC6.out.mono ?_; rintro e w' ⟨rfl, rfl⟩
  generalize hW : World.alloc W1 _ = W3 at *
  clear hW
  cases y7
  · replace HM := Lib.hid (ifF Bool.false_ne_true HM.out)
    obtain rfl := Option.some.inj HM.out
    go_wp2_with fail
    refine leave_marks (B := w.heap.size) _ _ HMK.out (fun W' => results_tmp2 rfl _ _ _) (fun W' hk => ⟨rfl, hk.below HD.out (Nat.le_refl _) (Nat.le_refl _)⟩)
  · replace HM := Lib.hid (ifT rfl HM.out)
    obtain ⟨y10, hy8, hm⟩ := obind HM.out
    replace HM := Lib.hid hm; clear hm
    have HC9 := sWith_ok W3  hy8
    clear hy8
    replace HC9 := Lib.hid HC9
    go_wp2_with fail
    refine HC9.out.mono ?_; rintro e w' ⟨rfl, rfl⟩
    go_wp2_with fail
    obtain ⟨o11, ho, hm⟩ := obind HM.out
    replace HM := Lib.hid hm; have HL1 := Lib.hid ho; clear hm ho
    replace HOA := Lib.hid (HOA.out.sub (.cons _ (.cons₂ _ .slnil)))
    refine wp_loop_marks _ [false, false, false, false, false, false, true, true, true, true, true, true, false, false, false, false, false, false, false, false, true, true, true, true, true, true, true, true, true, false, true, true, true, true, true, true, true, true, true, true, true, true] (fun gg fk1 dsk1 wr => ∃ (x12 : Nat) (x13 : Int), (fk1 8) = .int .u64 ((x12 : Nat) : Int) ∧ (fk1 9) = .int .i64 x13 ∧ Hid (Below w.heap.size w wr) ∧ Hid (HP wr w.heap.size [.fl (owX 24 (some ⟨w.heap.size, 0, none⟩) (.pointer (some ⟨g0, 0, none⟩)))]) ∧ Hid (Marks w.heap.size dsk1 wr) ∧ Hid (brambleweir_book_Book_Far_L1 F (v0) (v2) gg x12 x13 = some o11)) F _ (by simp only [agreeB, and_self, true_and]) ⟨y10, 0, rfl, rfl, HD, HOA, HMK, HL1⟩ ?round
    case round =>
      intro gk fk1 dsk1 wr hrel _ _ hJ1 _
      obtain ⟨x12, x13, hf14, hf15, HD, HOA, HMK, HL1⟩ := hrel
      simp only [setB, Nat.reduceAdd, hf14, hf15]
      clear hf14 hf15
      rename World => W16
      cases gk with
      | zero => exact absurd ((brambleweir_book_Book_Far_L1_0 ..).symm.trans HL1.out) (by intro h; cases h)
      | succ g1 =>
        replace HL1 := Lib.hid ((brambleweir_book_Book_Far_L1_s ..).symm.trans HL1.out)
        obtain ⟨y19, hy17, hm⟩ := obind HL1.out
        replace HL1 := Lib.hid hm; clear hm
        have HC18 := sHas_ok W16  hy17
        clear hy17
        replace HC18 := Lib.hid HC18
        cases y19
        · replace HL1 := Lib.hid (ifF Bool.false_ne_true HL1.out)
          go_wp2_with fail
          refine HC18.out.mono ?_; rintro e w' ⟨rfl, rfl⟩
          go_upto_region 9 with (fail)
          have hd : Below W16.heap.size W16 (W16.alloc (.cells #[.int .u64 (((x12) : Nat) : Int)] 48)) := (Below.refl _ _).alloc (Nat.le_refl _) _
          have ho := owX_ok W16 48 (.int .u64 (((x12) : Nat) : Int))
          generalize hW : World.alloc W16 _ = W20 at *
          clear hW
          replace HOA := Lib.hid (HOA.out.call hd HD.out.size ho); clear ho
          replace HD := Lib.hid (HD.out.trans (hd.mono HD.out.size))
          replace HMK := Lib.hid (HMK.out.nc (NC.of_below hd))
          clear hd
          obtain ⟨y22, hy23, hm⟩ := obind HL1.out
          replace HL1 := Lib.hid hm; clear hm
          obtain ⟨hlt, hml⟩ := s_of hy23
          have HLT25 := Lib.hid hlt; have HML26 := Lib.hid hml; clear hlt hml hy23
          obtain ⟨o24, ho, hm⟩ := obind HL1.out
          replace HL1 := Lib.hid hm; have HL2 := Lib.hid ho; clear hm ho
          go_wp2_with fail
          refine (each_any _ _).mono ?_; rintro e w' ⟨rfl, rfl⟩
          go_wp2_with fail
          have hd : Below W20.heap.size W20 (W20.alloc (.cells #[.int .u64 (((x12) : Nat) : Int)] 48)) := (Below.refl _ _).alloc (Nat.le_refl _) _
          have ho := owX_ok W20 48 (.int .u64 (((x12) : Nat) : Int))
          generalize hW : World.alloc W20 _ = W27 at *
          clear hW
          replace HOA := Lib.hid (HOA.out.call hd HD.out.size ho); clear ho
          replace HD := Lib.hid (HD.out.trans (hd.mono HD.out.size))
          replace HMK := Lib.hid (HMK.out.nc (NC.of_below hd))
          clear hd
          have HDk30 := HD
          refine (wpIn_wide (n := 5)).1 (wp_each2 (m := x12) (Bs := W20.heap.size) (by omega) HLT25.out rfl (HP.bx HOA.out (List.Mem.head _)) rfl (fun rest W => ∃ (x29 : Nat), Hid (Below w.heap.size w W) ∧ Hid (NC W27 W) ∧ Hid (HP W w.heap.size [.fl (owX 48 (some ⟨W20.heap.size, 0, none⟩) (.int .u64 (((x12) : Nat) : Int))), .fl (owX 48 (some ⟨W16.heap.size, 0, none⟩) (.int .u64 (((x29) : Nat) : Int))), .fl (owX 24 (some ⟨w.heap.size, 0, none⟩) (.pointer (some ⟨g0, 0, none⟩)))]) ∧ Hid (brambleweir_book_Book_Far_L2 F (v0) rest x29 = some o24)) (fun _ _ => False) ?hI_q58 ?hIx_q58 ⟨x12, HD, Lib.hid (NC.refl _), HOA, by rw [HML26.out]; exact HL2⟩ ?a1_q58 ?assign_q58 ?body_q58 ?done_q58 ?stop_q58)
          case hI_q58 =>
            rintro rest W W' ⟨x29, hd, hn, hh, hl⟩ hk
            exact ⟨x29, Lib.hid (hk.below hd.out HDk30.out.size (Nat.le_refl _)), Lib.hid (hn.out.keepC hk (Nat.le_refl _)), Lib.hid (hh.out.keepC hk), hl⟩
          case hIx_q58 => exact fun _ _ _ h _ => h
          case assign_q58 =>
            intro l x W K hK
            gi_wp2
            exact hK
          case body_q58 =>
            rintro l31 xn32 rest W33 hx ⟨x29, HD, HN, HOA, HL2⟩ _ _ _ hJ35 hJx36 _ hQ34
            replace HL2 := Lib.hid ((brambleweir_book_Book_Far_L2_c ..).symm.trans HL2.out)
            have HNB := Lib.hid (NC.refl W33)
            try gi_wp2_with fail
            have fb37 := HP.bx HOA.out (List.Mem.tail _ (List.Mem.head _))
            have fb38 := HP.bx HOA.out (List.Mem.tail _ (List.Mem.tail _ (List.Mem.head _)))
            obtain ⟨y39, hy40, hm⟩ := obind HL2.out
            replace HL2 := Lib.hid hm; clear hm
            obtain ⟨f44, f45, f46⟩ := (rdBk HD.out HR0.out).ix hy40
            try simp only [Int.toNat_natCast, Int.toNat_zero, Int.toNat_one] at f46
            have HY48 := Lib.hid hy40; clear hy40
            obtain ⟨y49, hy50, hm⟩ := obind HL2.out
            replace HL2 := Lib.hid hm; clear hm
            obtain ⟨f51, hy50⟩ := sOr_some hy50; subst hy50
            obtain ⟨q0, q1, hp, hb⟩ := HP.setBx (its1 := [_]) HOA.out (.int .u64 ((((x29 ||| y39)) : Nat) : Int))
            have HP_ := Lib.hid hp; have HB_ := Lib.hid hb; clear hp hb
            refine wpIn_region_still_tail (open_round l31) 8 (by kernel_rfl) (by kernel_rfl) (by kernel_rfl) ?_; simp only [List.take_succ_cons, List.take_zero, List.drop_succ_cons, List.drop_zero]; repeat still_step; try refine wpStill_nil ?_
            change wpListIn _ _ _ _ _ _ _ (World.drew W33)
            gi_wp2_with fail
            have hp := HP_.out.dr (Dr.one _); have hb := HB_.out.trans ((Dr.one _).below _); clear HP_ HB_
            replace HNB := Lib.hid (HNB.out.trans ((NC.setCell W33 ⟨W16.heap.size, 0, none⟩ (.int .u64 ((((x29 ||| y39)) : Nat) : Int))).trans (NC.drew _)))
            generalize hW : World.drew (World.setCell W33 _ _) = W52 at *
            clear hW
            try clear q0 q1 fb37 fb38 f44 f45 f46 f51
            replace HOA := Lib.hid (show HP W52 w.heap.size [.fl (owX 48 (some ⟨W20.heap.size, 0, none⟩) (.int .u64 (((x12) : Nat) : Int))), .fl (owX 48 (some ⟨W16.heap.size, 0, none⟩) (.int .u64 ((((x29 ||| y39)) : Nat) : Int))), .fl (owX 24 (some ⟨w.heap.size, 0, none⟩) (.pointer (some ⟨g0, 0, none⟩)))] from hp); clear hp
            replace HD := Lib.hid (HD.out.trans hb); clear hb
            gi_wp2_with fail
            exact ⟨HNB.out, HP.bx HOA.out (List.Mem.head _), hJ35 _ ⟨(x29 ||| y39), HD, Lib.hid (HN.out.trans HNB.out), HOA, HL2⟩⟩
          case done_q58 =>
            rintro D53 W54 hD ⟨x29, HD, HN, HOA, HL2⟩ hK
            have hov := Option.some.inj ((brambleweir_book_Book_Far_L2_n ..).symm.trans HL2.out)
            replace HMK := Lib.hid (HMK.out.push HN.out hD HDk30.out.size hK); clear hK hD HN
            subst hov
            have hm := HL1.out; try dsimp only at hm
            replace HL1 := Lib.hid hm; clear hm
            have fb55 := HP.bx HOA.out (List.Mem.tail _ (List.Mem.head _))
            rcases Bool.eq_false_or_eq_true (x29 == x12) with hc56 | hc56
            · replace HL1 := Lib.hid (ifT hc56 HL1.out)
              have HK57 := Lib.hid hc56
              have hc56z := (natBeq x29 x12).trans hc56
              obtain rfl := Option.some.inj HL1.out
              have hm := HM.out; try dsimp only at hm
              replace HM := Lib.hid hm; clear hm
              obtain rfl := Option.some.inj HM.out
              go_wp2_with fail
              try clear fb55 hc56
              refine leave_marks (B := w.heap.size) _ _ HMK.out (fun W' => results_tmp2 rfl _ _ _) (fun W' hk => ⟨rfl, hk.below HD.out (Nat.le_refl _) (Nat.le_refl _)⟩)
            · replace HL1 := Lib.hid (ifF (bF hc56) HL1.out)
              have HK57 := Lib.hid hc56
              have hc56z := (natBeq x29 x12).trans hc56
              go_wp2_with fail
              try clear fb55 hc56
              replace HOA := Lib.hid (HOA.out.sub (.cons _ (.cons _ (.cons₂ _ .slnil))))
              refine Handed.intro g1 (by omega) ?_
              refine hJ1 _ _ _ ⟨by simp only [agreeB, and_self, true_and], x29, (wrap64 (x13 + 1)), rfl, rfl, HD, HOA, HMK, HL1⟩
          case stop_q58 => exact fun _ _ _ _ h _ => h.elim
        · replace HL1 := Lib.hid (ifT rfl HL1.out)
          obtain rfl := Option.some.inj HL1.out
          have hm := HM.out; try dsimp only at hm
          replace HM := Lib.hid hm; clear hm
          obtain rfl := Option.some.inj HM.out
          go_wp2_with fail
          refine HC18.out.mono ?_; rintro e w' ⟨rfl, rfl⟩
          go_wp2_with fail
          refine leave_marks (B := w.heap.size) _ _ HMK.out (fun W' => results_tmp2 rfl _ _ _) (fun W' hk => ⟨rfl, hk.below HD.out (Nat.le_refl _) (Nat.le_refl _)⟩)
end Go.Proofs.YtekfgkeimlidhaaGreatDoor
