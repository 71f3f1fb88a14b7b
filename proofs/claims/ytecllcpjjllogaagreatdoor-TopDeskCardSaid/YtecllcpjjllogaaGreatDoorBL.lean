import Derived.Test.YtecllcpjjllogaaGreatDoorBkN
import Derived.Test.YtecllcpjjllogaaGreatDoorBox
import Derived.Test.YtecllcpjjllogaaGreatDoorQB
import Derived.Test.YtecllcpjjllogaaGreatDoorAst
import Derived.Test.YtecllcpjjllogaaGreatDoorMSt
import Derived.Test.YtecllcpjjllogaaGreatDoorL2
import Derived.Test.YtecllcpjjllogaaGreatDoorCmp
import Derived.Test.YtecllcpjjllogaaGreatDoorClo
import Derived.Test.YtecllcpjjllogaaGreatDoorGR
set_option linter.all false
set_option maxRecDepth 100000
namespace Go.Proofs.YtecllcpjjllogaaGreatDoor
open Go.RowKit
attribute [local go_sem] Oper.semAt_some
def brambleweir_book_Book_Lines_L2 (F : Nat) (v3 : Int) : List Nat → (List (Int × Int)) → Option (List (Int × Int))
  | [], v2 => some (v2)
  | x :: xs, v2 => (app v2 (v3, (x : Int))).bind fun y1 => brambleweir_book_Book_Lines_L2 F v3 xs (y1)
theorem brambleweir_book_Book_Lines_L2_n (F : Nat) (v3 : Int) (v2 : List (Int × Int)) : brambleweir_book_Book_Lines_L2 F v3 [] v2 = some (v2) := by rw [brambleweir_book_Book_Lines_L2]
theorem brambleweir_book_Book_Lines_L2_c (F : Nat) (v3 : Int) (v2 : List (Int × Int)) (x : Nat) (xs : List Nat) : brambleweir_book_Book_Lines_L2 F v3 (x :: xs) v2 = ((app v2 (v3, (x : Int))).bind fun y1 => brambleweir_book_Book_Lines_L2 F v3 xs (y1)) := by rw [brambleweir_book_Book_Lines_L2]
def brambleweir_book_Book_Lines_L1 (F : Nat) (v0 : List Nat) : Nat → (Int) → (List (Int × Int)) → Option (List (Int × Int))
  | 0, _, _ => none
  | g+1, j, v2 => if j < ((v0).length : Int) then (ix v0 j).bind fun y => (sBelow (j)).bind fun y4 => (sNot y y4).bind fun y5 => (sEach y5).bind fun y3 => (brambleweir_book_Book_Lines_L2 F (j) y3 (v2)).bind fun o2 => brambleweir_book_Book_Lines_L1 F v0 g (wrap64 (j + 1)) (o2) else some (v2)
theorem brambleweir_book_Book_Lines_L1_0 (F : Nat) (v0 : List Nat) (v2 : List (Int × Int)) (j : Int) : brambleweir_book_Book_Lines_L1 F v0 0 j v2 = none := by rw [brambleweir_book_Book_Lines_L1]
theorem brambleweir_book_Book_Lines_L1_s (F g : Nat) (v0 : List Nat) (v2 : List (Int × Int)) (j : Int) : brambleweir_book_Book_Lines_L1 F v0 (g+1) j v2 = (if j < ((v0).length : Int) then (ix v0 j).bind fun y => (sBelow (j)).bind fun y4 => (sNot y y4).bind fun y5 => (sEach y5).bind fun y3 => (brambleweir_book_Book_Lines_L2 F (j) y3 (v2)).bind fun o2 => brambleweir_book_Book_Lines_L1 F v0 g (wrap64 (j + 1)) (o2) else some (v2)) := by rw [brambleweir_book_Book_Lines_L1]
def brambleweir_book_Book_Lines (F : Nat) (v0 : List Nat) : Option (List (Int × Int)) := (brambleweir_book_Book_Lines_L1 F (v0) F (0) ([])).bind fun o6 => some (o6)
theorem bk8 {l : List Nat} {n0 n1 n2 n3 n4 n5 n6 n7 : Nat} (hl : l.length = 8) (h0 : n0 = l.getD 0 0) (h1 : n1 = l.getD 1 0) (h2 : n2 = l.getD 2 0) (h3 : n3 = l.getD 3 0) (h4 : n4 = l.getD 4 0) (h5 : n5 = l.getD 5 0) (h6 : n6 = l.getD 6 0) (h7 : n7 = l.getD 7 0) : l = [n0, n1, n2, n3, n4, n5, n6, n7] := by
  match l, hl with
  | [a, b, c, d, e, f, g, h], _ => subst h0 h1 h2 h3 h4 h5 h6 h7; rfl
theorem bk8ix {l : List Nat} {n0 n1 n2 n3 n4 n5 n6 n7 y : Nat} {j : Int} (h : l = [n0, n1, n2, n3, n4, n5, n6, n7]) (hy : ix l j = some y) :
    (#[Value.int .u64 ((n0 : Nat) : Int), Value.int .u64 ((n1 : Nat) : Int), Value.int .u64 ((n2 : Nat) : Int), Value.int .u64 ((n3 : Nat) : Int), Value.int .u64 ((n4 : Nat) : Int), Value.int .u64 ((n5 : Nat) : Int), Value.int .u64 ((n6 : Nat) : Int), Value.int .u64 ((n7 : Nat) : Int)] : Array Value)[j.toNat]? = some (.int .u64 ((y : Nat) : Int)) := by
  have h1 : l[j.toNat]? = some y := by
    unfold ix at hy
    split at hy
    · exact hy
    · cases hy
  have h2 : (#[Value.int .u64 ((n0 : Nat) : Int), Value.int .u64 ((n1 : Nat) : Int), Value.int .u64 ((n2 : Nat) : Int), Value.int .u64 ((n3 : Nat) : Int), Value.int .u64 ((n4 : Nat) : Int), Value.int .u64 ((n5 : Nat) : Int), Value.int .u64 ((n6 : Nat) : Int), Value.int .u64 ((n7 : Nat) : Int)] : Array Value) = (l.map fun m : Nat => Value.int .u64 (m : Int)).toArray := by rw [h]; rfl
  rw [h2, List.getElem?_toArray, List.getElem?_map, h1]; rfl
theorem bk8run {cs : Array Value} {j : Int} {v : Int} {W : World} (h : cs[j.toNat]? = some (.int .u64 v)) (hj : 0 ≤ j ∧ j < 8) : (Instr.index 46 (.agg cs) (.int .i64 j)).run Tryz.prog W = .ok (.int .u64 v) W := by
  unfold Instr.index
  simp [run_underlying Tryz.underlying46, asIntOf, hj, Tryz.sizeOf45, part, Tryz.isAgg45, h]
set_option maxRecDepth 100000 in
set_option maxHeartbeats 4000000 in
theorem brambleweir_book_Book_Lines_ok {F : Nat} {v0 : List Nat} {g0 : Nat} {r : List (Int × Int)} (w : World) (hr0 : ReadsBk w g0 v0) (h : brambleweir_book_Book_Lines F v0 = some r) :
    Calls Tryz.prog 33 #[.pointer (some ⟨g0, 0, none⟩)] w (PostG (fun v => v) (fun v => owL v r) w.heap.size w) := by
  have HR0 := Lib.hid hr0; clear hr0
  have HD := Lib.hid (Below.refl w.heap.size w)
  have HOA := Lib.hid (HP.nil (W := w) (B := w.heap.size))
  unfold brambleweir_book_Book_Lines at h
  have HM := Lib.hid h; clear h
  have HMK := Lib.hid (Marks.nil w.heap.size w)
  refine (callsIn_wide (n := 5)).1 ?_
  refine callsIn_of_wp_marks Tryz.func33 rfl trivial ?_ rfl
  simp only [Tryz.ntmps33, List.size_toArray, List.length_cons, List.length_nil, Nat.reduceAdd, Nat.reduceSub, Array.replicate_succ, Array.replicate_zero, List.push_toArray, List.append_toArray, List.nil_append, List.cons_append]
  refine wpIn_wide.2 ?_
  replace HOA := Lib.hid (show HP _ _ (.fl (owL (.slice none 0 0) ([])) :: _) from HOA.out.pushNil _ _)
  go_upto_region 2 with (fail)
  have hd : Below w.heap.size w (w.alloc (.cells #[(.slice none 0 0)] 69)) := (Below.refl _ _).alloc (Nat.le_refl _) _
  have ho := owX_ok w 69 ((.slice none 0 0))
  generalize hW : World.alloc w _ = W2 at *
  clear hW
  replace HOA := Lib.hid (HOA.out.call hd HD.out.size ho); clear ho
  replace HD := Lib.hid (HD.out.trans (hd.mono HD.out.size))
  replace HMK := Lib.hid (HMK.out.nc (NC.of_below hd))
  clear hd
  have HRB := Lib.hid (rdBk HD.out HR0.out)
  obtain ⟨n0, hn0⟩ : ∃ n, n = v0.getD 0 0 := ⟨_, rfl⟩
  have hm0 := HRB.out.2.2 0 (by omega)
  rw [← hn0] at hm0
  obtain ⟨n1, hn1⟩ : ∃ n, n = v0.getD 1 0 := ⟨_, rfl⟩
  have hm1 := HRB.out.2.2 1 (by omega)
  rw [← hn1] at hm1
  obtain ⟨n2, hn2⟩ : ∃ n, n = v0.getD 2 0 := ⟨_, rfl⟩
  have hm2 := HRB.out.2.2 2 (by omega)
  rw [← hn2] at hm2
  obtain ⟨n3, hn3⟩ : ∃ n, n = v0.getD 3 0 := ⟨_, rfl⟩
  have hm3 := HRB.out.2.2 3 (by omega)
  rw [← hn3] at hm3
  obtain ⟨n4, hn4⟩ : ∃ n, n = v0.getD 4 0 := ⟨_, rfl⟩
  have hm4 := HRB.out.2.2 4 (by omega)
  rw [← hn4] at hm4
  obtain ⟨n5, hn5⟩ : ∃ n, n = v0.getD 5 0 := ⟨_, rfl⟩
  have hm5 := HRB.out.2.2 5 (by omega)
  rw [← hn5] at hm5
  obtain ⟨n6, hn6⟩ : ∃ n, n = v0.getD 6 0 := ⟨_, rfl⟩
  have hm6 := HRB.out.2.2 6 (by omega)
  rw [← hn6] at hm6
  obtain ⟨n7, hn7⟩ : ∃ n, n = v0.getD 7 0 := ⟨_, rfl⟩
  have hm7 := HRB.out.2.2 7 (by omega)
  rw [← hn7] at hm7
  have HN := Lib.hid (show v0 = [n0, n1, n2, n3, n4, n5, n6, n7] from bk8 HRB.out.2.1 hn0 hn1 hn2 hn3 hn4 hn5 hn6 hn7)
  clear hn0 hn1 hn2 hn3 hn4 hn5 hn6 hn7
  go_wp2_with fail
  clear hm0 hm1 hm2 hm3 hm4 hm5 hm6 hm7
  obtain ⟨o4, ho, hm⟩ := obind HM.out
  replace HM := Lib.hid hm; have HL1 := Lib.hid ho; clear hm ho
  refine wp_loop_marks _ [false, false, false, false, true, true, true, false, false, false, false, true, true, true, true, true, true, true, true, true, false, true, true, true, true, true, true, true, false] (fun gg fk1 dsk1 wr => ∃ (j7 : Int) (x5 : List (Int × Int)) (V6 : Value), (fk1 11) = .int .i64 j7 ∧ Hid (Below w.heap.size w wr) ∧ Hid (HP wr w.heap.size [.fl (owX 69 (some ⟨w.heap.size, 0, none⟩) (V6)), .fl (owL V6 (x5))]) ∧ Hid (Marks w.heap.size dsk1 wr) ∧ Hid (brambleweir_book_Book_Lines_L1 F (v0) gg j7 x5 = some o4)) F _ (by simp only [agreeB, and_self, true_and]) ⟨0, [], (.slice none 0 0), rfl, HD, HOA, HMK, HL1⟩ ?round
  case round =>
    intro gk fk1 dsk1 wr hrel _ _ hJ1 _
    obtain ⟨j7, x5, V6, hf8, HD, HOA, HMK, HL1⟩ := hrel
    simp only [setB, Nat.reduceAdd, hf8]
    clear hf8
    rename World => W9
    cases gk with
    | zero => exact absurd ((brambleweir_book_Book_Lines_L1_0 ..).symm.trans HL1.out) (by intro h; cases h)
    | succ g1 =>
      replace HL1 := Lib.hid ((brambleweir_book_Book_Lines_L1_s ..).symm.trans HL1.out)
      by_cases hc10 : j7 < ((v0).length : Int)
      · replace HL1 := Lib.hid (ifT hc10 HL1.out)
        have hc10b : j7 < 8 := by have := HRB.out.2.1; omega
        have HK11 := Lib.hid hc10
        obtain ⟨y12, hy13, hm⟩ := obind HL1.out
        replace HL1 := Lib.hid hm; clear hm
        obtain ⟨f17, f18, f19⟩ := (rdBk HD.out HR0.out).ix hy13
        try simp only [Int.toNat_natCast, Int.toNat_zero, Int.toNat_one] at f19
        have f20 : (#[Value.int .u64 ((n0 : Nat) : Int), Value.int .u64 ((n1 : Nat) : Int), Value.int .u64 ((n2 : Nat) : Int), Value.int .u64 ((n3 : Nat) : Int), Value.int .u64 ((n4 : Nat) : Int), Value.int .u64 ((n5 : Nat) : Int), Value.int .u64 ((n6 : Nat) : Int), Value.int .u64 ((n7 : Nat) : Int)] : Array Value)[j7.toNat]? = some (.int .u64 ((y12 : Nat) : Int)) 
            := bk8ix HN.out hy13
        have f21 : (Instr.index 46 (.agg #[Value.int .u64 ((n0 : Nat) : Int), Value.int .u64 ((n1 : Nat) : Int), Value.int .u64 ((n2 : Nat) : Int), Value.int .u64 ((n3 : Nat) : Int), Value.int .u64 ((n4 : Nat) : Int), Value.int .u64 ((n5 : Nat) : Int), Value.int .u64 ((n6 : Nat) : Int), Value.int .u64 ((n7 : Nat) : Int)]) (.int .i64 j7)).run Tryz.prog W9 = .ok (.int .u64 ((y12 : Nat) : Int)) W9 := bk8run f20 ⟨f17, hc10b⟩
        have HY21 := Lib.hid hy13; clear hy13
        go_upto_region 5 with (fail)
        try clear hc10b f20 f21
        have hd : Below W9.heap.size W9 (W9.alloc (.cells #[.int .i64 (j7)] 3)) := (Below.refl _ _).alloc (Nat.le_refl _) _
        have ho := owX_ok W9 3 (.int .i64 (j7))
        generalize hW : World.alloc W9 _ = W22 at *
        clear hW
        try clear hc10 f17 f18 f19
        replace HOA := Lib.hid (HOA.out.call hd HD.out.size ho); clear ho
        replace HD := Lib.hid (HD.out.trans (hd.mono HD.out.size))
        replace HMK := Lib.hid (HMK.out.nc (NC.of_below hd))
        clear hd
        have fb24 := HP.bx HOA.out (List.Mem.head _)
        obtain ⟨y27, hy25, hm⟩ := obind HL1.out
        replace HL1 := Lib.hid hm; clear hm
        have HC26 := sBelow_ok W22  hy25
        clear hy25
        replace HC26 := Lib.hid HC26
        obtain ⟨y28, hy29, hm⟩ := obind HL1.out
        replace HL1 := Lib.hid hm; clear hm
        obtain ⟨f30, hy29⟩ := sNot_some hy29; subst hy29
        obtain ⟨y31, hy32, hm⟩ := obind HL1.out
        replace HL1 := Lib.hid hm; clear hm
        obtain ⟨hlt, hml⟩ := s_of hy32
        have HLT34 := Lib.hid hlt; have HML35 := Lib.hid hml; clear hlt hml hy32
        obtain ⟨o33, ho, hm⟩ := obind HL1.out
        replace HL1 := Lib.hid hm; have HL2 := Lib.hid ho; clear hm ho
        go_wp2_with fail
        refine HC26.out.mono ?_; rintro e w' ⟨rfl, rfl⟩
        go_wp2_with fail
        refine (each_any _ _).mono ?_; rintro e w' ⟨rfl, rfl⟩
        go_wp2_with fail
        try clear fb24 f30
        generalize ((Pl.ndiff y12 y27)) = me36 at *
        have hd : Below W22.heap.size W22 (W22.alloc (.cells #[.int .u64 (((me36) : Nat) : Int)] 45)) := (Below.refl _ _).alloc (Nat.le_refl _) _
        have ho := owX_ok W22 45 (.int .u64 (((me36) : Nat) : Int))
        generalize hW : World.alloc W22 _ = W37 at *
        clear hW
        replace HOA := Lib.hid (HOA.out.call hd HD.out.size ho); clear ho
        replace HD := Lib.hid (HD.out.trans (hd.mono HD.out.size))
        replace HMK := Lib.hid (HMK.out.nc (NC.of_below hd))
        clear hd
        have HDk41 := HD
        refine (wpIn_wide (n := 5)).1 (wp_each2 (m := me36) (Bs := W22.heap.size) (by omega) HLT34.out rfl (HP.bx HOA.out (List.Mem.head _)) rfl (fun rest W => ∃ (x39 : List (Int × Int)) (V40 : Value), Hid (Below w.heap.size w W) ∧ Hid (NC W37 W) ∧ Hid (HP W w.heap.size [.fl (owX 45 (some ⟨W22.heap.size, 0, none⟩) (.int .u64 (((me36) : Nat) : Int))), .fl (owX 3 (some ⟨W9.heap.size, 0, none⟩) (.int .i64 (j7))), .fl (owX 69 (some ⟨w.heap.size, 0, none⟩) (V40)), .fl (owL V40 (x39))]) ∧ Hid (brambleweir_book_Book_Lines_L2 F (j7) rest x39 = some o33)) (fun _ _ => False) ?hI_q63 ?hIx_q63 ⟨x5, V6, HD, Lib.hid (NC.refl _), HOA, by rw [HML35.out]; exact HL2⟩ ?a1_q63 ?assign_q63 ?body_q63 ?done_q63 ?stop_q63)
        case hI_q63 =>
          rintro rest W W' ⟨x39, V40, hd, hn, hh, hl⟩ hk
          exact ⟨x39, V40, Lib.hid (hk.below hd.out HDk41.out.size (Nat.le_refl _)), Lib.hid (hn.out.keepC hk (Nat.le_refl _)), Lib.hid (hh.out.keepC hk), hl⟩
        case hIx_q63 => exact fun _ _ _ h _ => h
        case assign_q63 =>
          intro l x W K hK
          gi_wp2
          exact hK
        case body_q63 =>
          rintro l42 xn43 rest W44 hx ⟨x39, V40, HD, HN, HOA, HL2⟩ _ _ _ hJ46 hJx47 _ hQ45
          replace HL2 := Lib.hid ((brambleweir_book_Book_Lines_L2_c ..).symm.trans HL2.out)
          have HNB := Lib.hid (NC.refl W44)
          have fb48 := HP.bx HOA.out (List.Mem.tail _ (List.Mem.head _))
          obtain ⟨A49, cap50, he, _⟩ := HP.open_L HOA.out (List.Mem.tail _ (List.Mem.tail _ (List.Mem.tail _ (List.Mem.head _))))
          subst he
          have fb51 := HP.bx HOA.out (List.Mem.tail _ (List.Mem.tail _ (List.Mem.head _)))
          obtain ⟨y52, hy53, hm⟩ := obind HL2.out
          replace HL2 := Lib.hid hm; clear hm
          obtain ⟨f54, hy53⟩ := app_some hy53; subst hy53
          obtain ⟨V55, W56, hrun, hoa, hb, hn⟩ := run_appL (e' := 86) (y := ((j7, (xn43 : Int))).1) (z := ((j7, (xn43 : Int))).2) (L1 := [_, _, _]) W44 69 69 Tryz.underlying69 HOA.out f54 HD.out.size
          obtain ⟨A57, cap58, he, _⟩ := HP.open_L hoa (List.Mem.tail _ (List.Mem.tail _ (List.Mem.tail _ (List.Mem.head _))))
          obtain ⟨n59, hn3⟩ : ∃ n, List.length (x39 ++ [(j7, (xn43 : Int))]) = n := ⟨_, rfl⟩
          rw [hn3] at he; subst he; clear hn3
          obtain ⟨q0, q1, hp, hb2⟩ := HP.setBx (its1 := [_, _]) hoa (.slice A57 n59 cap58)
          have HP_ := Lib.hid hp; have HB_ := Lib.hid hb2; clear hp hb2 hoa
          have HR_ := Lib.hid hrun; have HN_ := Lib.hid hn; have HOB := Lib.hid hb; clear hrun hn hb
          gi_wp2_with (gi_at_builtin; refine wpIn_appRun HR_.out rfl rfl rfl rfl ?_)
          have hp := HP_.out; clear HP_ HR_
          replace HNB := Lib.hid (HNB.out.trans (HN_.out.trans (NC.setCell W56 ⟨w.heap.size, 0, none⟩ (.slice A57 n59 cap58))))
          have hb := HOB.out.trans HB_.out
          generalize hW : World.setCell W56 _ _ = W60 at *
          clear hW HB_ HOB HN_
          try clear q0 q1 fb48 fb51
          replace HOA := Lib.hid (show HP W60 w.heap.size [.fl (owX 45 (some ⟨W22.heap.size, 0, none⟩) (.int .u64 (((me36) : Nat) : Int))), .fl (owX 3 (some ⟨W9.heap.size, 0, none⟩) (.int .i64 (j7))), .fl (owX 69 (some ⟨w.heap.size, 0, none⟩) ((.slice A57 n59 cap58))), .fl (owL (.slice A57 n59 cap58) ((x39 ++ [(j7, (xn43 : Int))])))] from hp); clear hp
          replace HD := Lib.hid (HD.out.trans hb); clear hb
          gi_wp2_with fail
          exact ⟨HNB.out, HP.bx HOA.out (List.Mem.head _), hJ46 _ ⟨(x39 ++ [(j7, (xn43 : Int))]), (.slice A57 n59 cap58), HD, Lib.hid (HN.out.trans HNB.out), HOA, HL2⟩⟩
        case done_q63 =>
          rintro D61 W62 hD ⟨x39, V40, HD, HN, HOA, HL2⟩ hK
          have hov := Option.some.inj ((brambleweir_book_Book_Lines_L2_n ..).symm.trans HL2.out)
          replace HMK := Lib.hid (HMK.out.push HN.out hD HDk41.out.size hK); clear hK hD HN
          subst hov
          have hm := HL1.out; try dsimp only at hm
          replace HL1 := Lib.hid hm; clear hm
          go_wp2_with fail
          replace HOA := Lib.hid (HOA.out.sub (.cons _ (.cons _ (.cons₂ _ (.cons₂ _ .slnil)))))
          refine Handed.intro g1 (by omega) ?_
          refine hJ1 _ _ _ ⟨by simp only [agreeB, and_self, true_and], (wrap64 (j7 + 1)), x39, V40, rfl, HD, HOA, HMK, HL1⟩
        case stop_q63 => exact fun _ _ _ _ h _ => h.elim
      · replace HL1 := Lib.hid (ifF hc10 HL1.out)
        have hc10d := decide_eq_false hc10
        have hc10b : ¬ j7 < 8 := by have := HRB.out.2.1; omega
        have HK11 := Lib.hid hc10
        obtain rfl := Option.some.inj HL1.out
        have hm := HM.out; try dsimp only at hm
        replace HM := Lib.hid hm; clear hm
        obtain ⟨A64, cap65, he, _⟩ := HP.open_L HOA.out (List.Mem.tail _ (List.Mem.head _))
        subst he
        have fb66 := HP.bx HOA.out (List.Mem.head _)
        obtain rfl := Option.some.inj HM.out
        go_wp2_with fail
        try clear hc10 hc10d fb66
        refine leave_marks (B := w.heap.size) _ _ HMK.out (fun W' => results_tmp rfl _ _ _) (fun W' hk => ⟨_, rfl, (HOA.out.keepC hk).get (List.Mem.tail _ (List.Mem.head _)), hk.below HD.out (Nat.le_refl _) (Nat.le_refl _)⟩)
end Go.Proofs.YtecllcpjjllogaaGreatDoor
