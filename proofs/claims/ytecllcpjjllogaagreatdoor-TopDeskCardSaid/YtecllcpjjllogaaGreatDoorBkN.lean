import Derived.Test.YtecllcpjjllogaaGreatDoorBkD
import Derived.Test.YtecllcpjjllogaaGreatDoorL1
import Derived.Test.YtecllcpjjllogaaGreatDoorQB
import Derived.StillTailTactics
/- join and cut -/
set_option linter.all false
set_option maxRecDepth 100000
namespace Go.Proofs.YtecllcpjjllogaaGreatDoor
open Go.RowKit Go.Shelf Pl
abbrev BkT := List Nat × ByteArray × Int
abbrev bkI (g : Nat) (b : BkT) : It := .bk g b.1 b.2.1 b.2.2
def okB (b : BkT) : Prop := (∀ m ∈ b.1, m < 256) ∧ b.2.1.size < 1000000 ∧ 0 ≤ b.2.2 ∧ b.2.2 ≤ 60
instance (b : BkT) : Decidable (okB b) := by unfold okB; exact inferInstance
def bkE (i j : Int) : Int := if (0 ≤ i ∧ i ≤ 7) ∧ (0 ≤ j ∧ j ≤ 7) then (if i = j then 3 else 0) else 1
theorem bkCheck_ok (w : World) (g : Nat) (i j : Int) :
    Calls Tryz.prog 42 #[.pointer (some ⟨g, 0, none⟩), .int .i64 i, .int .i64 j] w fun e w' => e = .returned (errV 75 (bkE i j)) ∧ Below w.heap.size w w' := by
  by_cases e1 : (0 ≤ i ∧ i ≤ 7) ∧ (0 ≤ j ∧ j ≤ 7)
  · have E1 : Hid (inAll [i, j] 0 7 = true) := by show _ = _; rw [inAll2, decide_eq_true e1.1, decide_eq_true e1.2]; rfl
    by_cases e3 : i = j
    · obtain rfl := e3
      have HE : Hid (bkE i i = 3) := by show _ = _; rw [bkE, if_pos e1, if_pos rfl]
      clear e1
      go_enter Tryz.func42, Tryz.ntmps42
      go_wp2_with fail
      refine (call2_any i i 7 _ true E1.out _ rfl).mono ?_; rintro e w' ⟨rfl, rfl⟩
      go_wp2_with fail
      go_ret
      exact ⟨ret_v (by rw [HE.out]; rfl), (Below.refl _ _).alloc (Nat.le_refl _) _⟩
    · have HE : Hid (bkE i j = 0) := by show _ = _; rw [bkE, if_pos e1, if_neg e3]
      have e3b : (i == j) = false := by simpa using e3
      clear e1
      go_enter Tryz.func42, Tryz.ntmps42
      go_wp2_with fail
      refine (call2_any i j 7 _ true E1.out _ rfl).mono ?_; rintro e w' ⟨rfl, rfl⟩
      go_wp2_with fail
      go_ret
      exact ⟨ret_v (by rw [HE.out]; rfl), (Below.refl _ _).alloc (Nat.le_refl _) _⟩
  · have E1 : Hid (inAll [i, j] 0 7 = false) := by
      show _ = _; rw [inAll2]
      by_cases q : 0 ≤ i ∧ i ≤ 7
      · rw [decide_eq_true q, decide_eq_false (fun h => e1 ⟨q, h⟩)]; rfl
      · rw [decide_eq_false q]; rfl
    have HE : Hid (bkE i j = 1) := by show _ = _; rw [bkE, if_neg e1]
    clear e1
    go_enter Tryz.func42, Tryz.ntmps42
    go_wp2_with fail
    refine (call2_any i j 7 _ false E1.out _ rfl).mono ?_; rintro e w' ⟨rfl, rfl⟩
    go_wp2_with fail
    go_ret
    exact ⟨ret_v (by rw [HE.out]; rfl), (Below.refl _ _).alloc (Nat.le_refl _) _⟩
def hasB (ms : List Nat) (i j : Int) : Bool := (ms.getD i.toNat 0).testBit j.toNat
def wthB (m : Nat) (i : Int) : Nat := m ||| 2 ^ i.toNat
def wtoB (m : Nat) (i : Int) : Nat := ndiff m (2 ^ i.toNat)
/-- with the line, its text put down -/
def joinB (b : BkT) (i j : Int) : BkT := ((b.1.set i.toNat (wthB (b.1.getD i.toNat 0) j)).set j.toNat (wthB (b.1.getD j.toNat 0) i), b.2.1 ++ lineW (dnW (⟨#[106]⟩ : ByteArray) [i, j]), b.2.2 + 1)
def cutB (b : BkT) (i j : Int) : BkT := ((b.1.set i.toNat (wtoB (b.1.getD i.toNat 0) j)).set j.toNat (wtoB (b.1.getD j.toNat 0) i), b.2.1 ++ lineW (dnW (⟨#[99]⟩ : ByteArray) [i, j]), b.2.2 + 1)
def mJoin (b : BkT) (i j : Int) : Option (Int × BkT) :=
  if okB b then some (if bkE i j = 0 then (if hasB b.1 i j = true then (6, b) else if b.2.2 = 60 then (4, b) else (0, joinB b i j)) else (bkE i j, b)) else none
def mCut (b : BkT) (i j : Int) : Option (Int × BkT) :=
  if okB b then some (if bkE i j = 0 then (if hasB b.1 i j = true then (if b.2.2 = 60 then (4, b) else (0, cutB b i j)) else (5, b)) else (bkE i j, b)) else none
set_option maxHeartbeats 4000000 in
theorem mJoin_okN {B g : Nat} {its1 its2 : List It} {b : BkT} {i j : Int} {r : Int × BkT} (w : World) (htb : TabB B w) (h : HP w B (its1 ++ bkI g b :: its2)) (hB : B ≤ w.heap.size) (hm : mJoin b i j = some r) :
    Calls Tryz.prog 29 #[.pointer (some ⟨g, 0, none⟩), .int .i64 i, .int .i64 j] w fun e w' =>
      e = .returned (errV 75 r.1) ∧ HP w' B (its1 ++ bkI g r.2 :: its2) ∧ Below B w w' ∧ NC w w' := by
  unfold mJoin at hm
  obtain ⟨hok, rfl⟩ := s_of hm
  clear hm
  have HH := Lib.hid h; clear h
  have HOK := Lib.hid hok; clear hok
  have HTB := Lib.hid htb; clear htb
  have HC := Lib.hid (bkCheck_ok w g i j)
  by_cases c1 : bkE i j = 0
  · rw [if_pos c1]
    rw [c1, errV_zero] at HC
    have hij : ((0 ≤ i ∧ i ≤ 7) ∧ (0 ≤ j ∧ j ≤ 7)) ∧ i ≠ j := by
      unfold bkE at c1
      split at c1
      · rename_i q; exact ⟨q, fun e => by rw [if_pos e] at c1; cases c1⟩
      · cases c1
    clear c1
    obtain ⟨⟨⟨i0, i7⟩, j0, j7⟩, hne⟩ := hij
    obtain ⟨i', rfl⟩ := Int.eq_ofNat_of_zero_le i0
    obtain ⟨j', rfl⟩ := Int.eq_ofNat_of_zero_le j0
    have HNE : Hid (i' ≠ j') := fun e => hne (by rw [e])
    clear i0 j0 hne
    obtain ⟨m1, m2, m3, m4, m5, m6⟩ := HH.out.bkM
    have hmi : b.1.getD i' 0 < 256 := by
      rw [List.getD_eq_getElem?_getD, List.getElem?_eq_getElem (by omega)]
      exact HOK.out.1 _ (List.getElem_mem _)
    have hmj : b.1.getD j' 0 < 256 := by
      rw [List.getD_eq_getElem?_getD, List.getElem?_eq_getElem (by omega)]
      exact HOK.out.1 _ (List.getElem_mem _)
    have ci := m3 i' (by omega)
    have cj := m3 j' (by omega)
    generalize hmi' : b.1.getD i' 0 = mi at *
    generalize hmj' : b.1.getD j' 0 = mj at *
    have HS : Hid (hasB b.1 i' j' = mi.testBit j') := by show _ = _; unfold hasB; rw [Int.toNat_natCast, hmi', Int.toNat_natCast]
    have CI := Lib.hid ci; have CJ := Lib.hid cj; have CN := Lib.hid m4
    have HMI := Lib.hid hmi'; have HMJ := Lib.hid hmj'
    have HL := Lib.hid m2; have HF := Lib.hid m5
    have HBG := Lib.hid m1
    clear ci cj m3 m4 m5 m6 hmi' hmj' m2 m1
    have hh : sHas mi (j' : Int) = some (mi.testBit j') := by unfold sHas; rw [if_pos (by omega), Int.toNat_natCast]
    have HHAS := Lib.hid hh; clear hh
    rw [HS.out]
    cases hb : mi.testBit j' with
    | true =>
      rw [if_pos rfl]
      rw [hb] at HHAS
      go_enter Tryz.func29, Tryz.ntmps29
      go_wp2_with fail
      refine HC.out.mono ?_; rintro e w1 ⟨rfl, hd⟩
      have ci := (hd.cell (p := ⟨g, i', none⟩) (World.block_lt_of_cell? _ _ CI.out)).trans CI.out
      have HD := Lib.hid hd; clear hd
      go_wp2_with fail
      refine (sHas_ok _ HHAS.out).mono ?_; rintro e w2 ⟨rfl, rfl⟩
      go_wp2_with fail
      go_ret
      exact ⟨ret_v rfl, HH.out.below HD.out, HD.out.mono hB, NC.of_below HD.out⟩
    | false =>
      rw [if_neg (by decide)]
      rw [hb] at HHAS
      by_cases c60 : b.2.2 = 60
      · rw [if_pos c60]
        have c60b : (b.2.2 == 60) = true := by simpa using c60
        go_enter Tryz.func29, Tryz.ntmps29
        go_wp2_with fail
        refine HC.out.mono ?_; rintro e w1 ⟨rfl, hd⟩
        have ci := (hd.cell (p := ⟨g, i', none⟩) (World.block_lt_of_cell? _ _ CI.out)).trans CI.out
        have cn := (hd.cell (p := ⟨g, 10, none⟩) (World.block_lt_of_cell? _ _ CN.out)).trans CN.out
        have HD := Lib.hid hd; clear hd
        go_wp2_with fail
        refine (sHas_ok _ HHAS.out).mono ?_; rintro e w2 ⟨rfl, rfl⟩
        go_wp2_with fail
        go_ret
        exact ⟨ret_v rfl, HH.out.below HD.out, HD.out.mono hB, NC.of_below HD.out⟩
      · rw [if_neg c60]
        have c60b : (b.2.2 == 60) = false := by simpa using c60
        go_enter Tryz.func29, Tryz.ntmps29
        go_wp2_with fail
        refine HC.out.mono ?_; rintro e w1 ⟨rfl, hd⟩
        have ci := (hd.cell (p := ⟨g, i', none⟩) (World.block_lt_of_cell? _ _ CI.out)).trans CI.out
        have cj := (hd.cell (p := ⟨g, j', none⟩) (World.block_lt_of_cell? _ _ CJ.out)).trans CJ.out
        have cn := (hd.cell (p := ⟨g, 10, none⟩) (World.block_lt_of_cell? _ _ CN.out)).trans CN.out
        have HD := Lib.hid hd; clear hd
        have HW1 := Lib.hid (show sWith mi (j' : Int) = some (wthB mi j') by unfold sWith; rw [if_pos (by omega)]; rfl)
        have HW2 := Lib.hid (show sWith mj (i' : Int) = some (wthB mj i') by unfold sWith; rw [if_pos (by omega)]; rfl)
        go_wp2_with fail
        refine (sHas_ok _ HHAS.out).mono ?_; rintro e w2 ⟨rfl, rfl⟩
        go_wp2_with fail
        have HCW1 := Lib.hid (fun d_ os_ => Calls.regrown_of (v := .int .u64 ((wthB mi j' : Nat) : Int)) ((sWith_ok (Go.Sort.grow (redrawn w1 d_) os_) HW1.out).mono fun _ _ h_ => ⟨h_.1, h_.2 ▸ Below.refl _ _⟩))
        have HCW2 := Lib.hid (fun d_ os_ => Calls.regrown_of (v := .int .u64 ((wthB mj i' : Nat) : Int)) ((sWith_ok (Go.Sort.grow (redrawn w1 d_) os_) HW2.out).mono fun _ _ h_ => ⟨h_.1, h_.2 ▸ Below.refl _ _⟩))
        have hi8 : ((i' : Nat) : Int) < 8 := by omega
        have hj8 : ((j' : Nat) : Int) < 8 := by omega
        have ci_r := cell_regrown ci
        have cj_r := cell_regrown cj
        refine wp_region_sched [0, 1, 2, 3, 4, 5, 6, 7, 8, 10, 12, 13, 14, 15, 16, 18, 20, 21, 24, 25] [9, 11, 17, 19] [22] [23, 26, 27] (by kernel_rfl) (by kernel_rfl) ?_
        repeat (refine wpPH_step rfl rfl (fun K hK => ?_); go_simp; refine hK _ ?_; clear hK K)
        refine wpPH_nil ?_
        repeat (refine wpQI_step rfl rfl (fun K hK => ?_); go_simp; first | (refine hK _ ?_; clear hK K) | (apply Exists.intro; refine ⟨fun _ => ?_, hK _ ?_⟩; (first | exact (HCW1.out _ _) | exact (HCW2.out _ _)); clear hK K))
        refine wpQI_nil ?_
        intro _ hw_
        obtain ⟨⟨dq, osq⟩, hw_⟩ := hw_
        subst hw_
        have hd := below_regrown w1 dq osq
        generalize Go.Sort.grow (redrawn w1 _) _ = W9 at *
        have hd9 := HD.out.trans (hd.mono HD.out.size)
        have h1 := HH.out.below hd9
        obtain ⟨m1, m2, m3, m4, m5, m6⟩ := h1.bkM
        have fi := m5 i'
        have ci9 := m3 i' (by omega)
        obtain ⟨h2, hb2⟩ := h1.bkSetM (k := i') (by omega) (wthB mi j')
        obtain ⟨k1, k2, k3, k4, k5, k6⟩ := h2.bkM
        have fj := k5 j'
        have cj2 := k3 j' (by omega)
        obtain ⟨h3, hb3⟩ := h2.bkSetM (k := j') (by omega) (wthB mj i')
        have H3 := Lib.hid h3
        have HB3 := Lib.hid ((hd9.mono hB).trans (hb2.trans hb3))
        have HN9 := Lib.hid (NC.of_below hd9)
        clear m1 m2 m3 m4 m5 m6 h1 h2 hb2 hb3 h3 k1 k2 k3 k4 k5 k6 hd hd9 ci cj cn ci_r cj_r
        repeat (refine wpPH_step rfl rfl (fun K hK => ?_); go_simp; refine hK _ ?_; clear hK K)
        refine wpPH_nil ?_
        refine wpSI_step rfl rfl (fun K hK => ?_); go_simp; refine hK _ _ ?_; clear hK K
        refine wpSI_stepV rfl rfl (fun K hK => ?_); go_simp; refine hK _ _ ?_; clear hK K
        refine wpSI_step rfl rfl (fun K hK => ?_); go_simp; refine hK _ _ ?_; clear hK K
        clear fi ci9 fj cj2 hi8 hj8
        have HN10 : Hid (NC w (World.setCell (World.setCell W9 ⟨g, i', none⟩ (.int .u64 ((wthB mi j' : Nat) : Int))) ⟨g, j', none⟩ (.int .u64 ((wthB mj i' : Nat) : Int)))) := Lib.hid ((HN9.out.trans (NC.setCell _ _ _)).trans (NC.setCell _ _ _))
        generalize hW : World.setCell (World.setCell W9 _ _) _ _ = W10 at *
        clear hW
        have h3 := H3.out
        have hsz := Nat.le_trans hB HB3.out.size
        have htb := (HTB.out.go HB3.out).1
        refine wpSI_nil ?_
        go_wp2_with fail
        have hr : ReadsI (W10.alloc (.cells #[.int .i64 (i' : Int), .int .i64 (j' : Int)] 3)) (W10.alloc (.cells #[.int .i64 (i' : Int), .int .i64 (j' : Int)] 3)).heap.size (some ⟨W10.heap.size, 0, none⟩) [(i' : Int), (j' : Int)] := lit_reads [(i' : Int), (j' : Int)] 3 W10
        have hal : Below W10.heap.size W10 (W10.alloc (.cells #[.int .i64 (i' : Int), .int .i64 (j' : Int)] 3)) := (Below.refl _ _).alloc (Nat.le_refl _) _
        have ho := HOK.out
        refine (bkDown_okN (l := [(i' : Int), (j' : Int)]) (cap := 2) (word := (⟨#[106]⟩ : ByteArray)) _ (htb.go hal) (h3.below hal) (Nat.le_trans hsz hal.size) hr (by simp) (by intro x hx; simp at hx; omega) (by decide) ho.2.1 ⟨ho.2.2.1, by have := ho.2.2.2; omega⟩).mono ?_
        rintro e W11 ⟨rfl, h4, hb4, hn4⟩
        have H4 := Lib.hid h4
        have HB4 := Lib.hid (HB3.out.trans ((hal.mono hsz).trans hb4))
        have HN4 := Lib.hid ((HN10.out.trans (NC.of_below hal)).trans hn4)
        clear h3 h4 hb4 hal hr htb hn4
        go_wp2_with fail
        go_ret
        refine ⟨ret_v rfl, ?_, HB4.out, HN4.out⟩
        show HP W11 B (its1 ++ bkI g (joinB b i' j') :: its2)
        unfold joinB bkI
        rw [Int.toNat_natCast, Int.toNat_natCast, HMI.out, HMJ.out]
        exact H4.out
  · rw [if_neg c1]
    rw [errV_pos _ c1] at HC
    go_enter Tryz.func29, Tryz.ntmps29
    go_wp2_with fail
    refine HC.out.mono ?_; rintro e w1 ⟨rfl, hd⟩
    have HD := Lib.hid hd; clear hd
    go_wp2_with fail
    go_ret
    exact ⟨ret_v (by rw [errV_pos _ c1]; rfl), HH.out.below HD.out, HD.out.mono hB, NC.of_below HD.out⟩
theorem mJoin_ok {B g : Nat} {its1 its2 : List It} {b : BkT} {i j : Int} {r : Int × BkT} (w : World) (htb : TabB B w) (h : HP w B (its1 ++ bkI g b :: its2)) (hB : B ≤ w.heap.size) (hm : mJoin b i j = some r) :
    Calls Tryz.prog 29 #[.pointer (some ⟨g, 0, none⟩), .int .i64 i, .int .i64 j] w fun e w' =>
      e = .returned (errV 75 r.1) ∧ HP w' B (its1 ++ bkI g r.2 :: its2) ∧ Below B w w' :=
  (mJoin_okN w htb h hB hm).mono fun _ _ h_ => ⟨h_.1, h_.2.1, h_.2.2.1⟩
end Go.Proofs.YtecllcpjjllogaaGreatDoor
/- cut -/
set_option linter.all false
set_option maxRecDepth 100000
namespace Go.Proofs.YtecllcpjjllogaaGreatDoor
open Go.RowKit Go.Shelf Pl
set_option maxHeartbeats 4000000 in
theorem mCut_okN {B g : Nat} {its1 its2 : List It} {b : BkT} {i j : Int} {r : Int × BkT} (w : World) (htb : TabB B w) (h : HP w B (its1 ++ bkI g b :: its2)) (hB : B ≤ w.heap.size) (hm : mCut b i j = some r) :
    Calls Tryz.prog 30 #[.pointer (some ⟨g, 0, none⟩), .int .i64 i, .int .i64 j] w fun e w' =>
      e = .returned (errV 75 r.1) ∧ HP w' B (its1 ++ bkI g r.2 :: its2) ∧ Below B w w' ∧ NC w w' := by
  unfold mCut at hm
  obtain ⟨hok, rfl⟩ := s_of hm
  clear hm
  have HH := Lib.hid h; clear h
  have HOK := Lib.hid hok; clear hok
  have HTB := Lib.hid htb; clear htb
  have HC := Lib.hid (bkCheck_ok w g i j)
  by_cases c1 : bkE i j = 0
  · rw [if_pos c1]
    rw [c1, errV_zero] at HC
    have hij : ((0 ≤ i ∧ i ≤ 7) ∧ (0 ≤ j ∧ j ≤ 7)) ∧ i ≠ j := by
      unfold bkE at c1
      split at c1
      · rename_i q; exact ⟨q, fun e => by rw [if_pos e] at c1; cases c1⟩
      · cases c1
    clear c1
    obtain ⟨⟨⟨i0, i7⟩, j0, j7⟩, hne⟩ := hij
    obtain ⟨i', rfl⟩ := Int.eq_ofNat_of_zero_le i0
    obtain ⟨j', rfl⟩ := Int.eq_ofNat_of_zero_le j0
    have HNE : Hid (i' ≠ j') := fun e => hne (by rw [e])
    clear i0 j0 hne
    obtain ⟨m1, m2, m3, m4, m5, m6⟩ := HH.out.bkM
    have hmi : b.1.getD i' 0 < 256 := by
      rw [List.getD_eq_getElem?_getD, List.getElem?_eq_getElem (by omega)]
      exact HOK.out.1 _ (List.getElem_mem _)
    have hmj : b.1.getD j' 0 < 256 := by
      rw [List.getD_eq_getElem?_getD, List.getElem?_eq_getElem (by omega)]
      exact HOK.out.1 _ (List.getElem_mem _)
    have ci := m3 i' (by omega)
    have cj := m3 j' (by omega)
    generalize hmi' : b.1.getD i' 0 = mi at *
    generalize hmj' : b.1.getD j' 0 = mj at *
    have HS : Hid (hasB b.1 i' j' = mi.testBit j') := by show _ = _; unfold hasB; rw [Int.toNat_natCast, hmi', Int.toNat_natCast]
    have CI := Lib.hid ci; have CJ := Lib.hid cj; have CN := Lib.hid m4
    have HMI := Lib.hid hmi'; have HMJ := Lib.hid hmj'
    have HL := Lib.hid m2; have HF := Lib.hid m5
    have HBG := Lib.hid m1
    clear ci cj m3 m4 m5 m6 hmi' hmj' m2 m1
    have hh : sHas mi (j' : Int) = some (mi.testBit j') := by unfold sHas; rw [if_pos (by omega), Int.toNat_natCast]
    have HHAS := Lib.hid hh; clear hh
    rw [HS.out]
    cases hb : mi.testBit j' with
    | false =>
      rw [if_neg (by decide)]
      rw [hb] at HHAS
      go_enter Tryz.func30, Tryz.ntmps30
      go_wp2_with fail
      refine HC.out.mono ?_; rintro e w1 ⟨rfl, hd⟩
      have ci := (hd.cell (p := ⟨g, i', none⟩) (World.block_lt_of_cell? _ _ CI.out)).trans CI.out
      have HD := Lib.hid hd; clear hd
      go_wp2_with fail
      refine (sHas_ok _ HHAS.out).mono ?_; rintro e w2 ⟨rfl, rfl⟩
      go_wp2_with fail
      go_ret
      exact ⟨ret_v rfl, HH.out.below HD.out, HD.out.mono hB, NC.of_below HD.out⟩
    | true =>
      rw [if_pos rfl]
      rw [hb] at HHAS
      by_cases c60 : b.2.2 = 60
      · rw [if_pos c60]
        have c60b : (b.2.2 == 60) = true := by simpa using c60
        go_enter Tryz.func30, Tryz.ntmps30
        go_wp2_with fail
        refine HC.out.mono ?_; rintro e w1 ⟨rfl, hd⟩
        have ci := (hd.cell (p := ⟨g, i', none⟩) (World.block_lt_of_cell? _ _ CI.out)).trans CI.out
        have cn := (hd.cell (p := ⟨g, 10, none⟩) (World.block_lt_of_cell? _ _ CN.out)).trans CN.out
        have HD := Lib.hid hd; clear hd
        go_wp2_with fail
        refine (sHas_ok _ HHAS.out).mono ?_; rintro e w2 ⟨rfl, rfl⟩
        go_wp2_with fail
        go_ret
        exact ⟨ret_v rfl, HH.out.below HD.out, HD.out.mono hB, NC.of_below HD.out⟩
      · rw [if_neg c60]
        have c60b : (b.2.2 == 60) = false := by simpa using c60
        go_enter Tryz.func30, Tryz.ntmps30
        go_wp2_with fail
        refine HC.out.mono ?_; rintro e w1 ⟨rfl, hd⟩
        have ci := (hd.cell (p := ⟨g, i', none⟩) (World.block_lt_of_cell? _ _ CI.out)).trans CI.out
        have cj := (hd.cell (p := ⟨g, j', none⟩) (World.block_lt_of_cell? _ _ CJ.out)).trans CJ.out
        have cn := (hd.cell (p := ⟨g, 10, none⟩) (World.block_lt_of_cell? _ _ CN.out)).trans CN.out
        have HD := Lib.hid hd; clear hd
        have HW1 := Lib.hid (show sWithout mi (j' : Int) = some (wtoB mi j') by unfold sWithout; rw [if_pos (by omega)]; rfl)
        have HW2 := Lib.hid (show sWithout mj (i' : Int) = some (wtoB mj i') by unfold sWithout; rw [if_pos (by omega)]; rfl)
        go_wp2_with fail
        refine (sHas_ok _ HHAS.out).mono ?_; rintro e w2 ⟨rfl, rfl⟩
        go_wp2_with fail
        have HCW1 := Lib.hid (fun d_ os_ => Calls.regrown_of (v := .int .u64 ((wtoB mi j' : Nat) : Int)) ((sWithout_ok (Go.Sort.grow (redrawn w1 d_) os_) HW1.out).mono fun _ _ h_ => ⟨h_.1, h_.2 ▸ Below.refl _ _⟩))
        have HCW2 := Lib.hid (fun d_ os_ => Calls.regrown_of (v := .int .u64 ((wtoB mj i' : Nat) : Int)) ((sWithout_ok (Go.Sort.grow (redrawn w1 d_) os_) HW2.out).mono fun _ _ h_ => ⟨h_.1, h_.2 ▸ Below.refl _ _⟩))
        have hi8 : ((i' : Nat) : Int) < 8 := by omega
        have hj8 : ((j' : Nat) : Int) < 8 := by omega
        have ci_r := cell_regrown ci
        have cj_r := cell_regrown cj
        refine wp_region_sched [0, 1, 2, 3, 4, 5, 6, 7, 8, 10, 12, 13, 14, 15, 16, 18, 20, 21, 24, 25] [9, 11, 17, 19] [22] [23, 26, 27] (by kernel_rfl) (by kernel_rfl) ?_
        repeat (refine wpPH_step rfl rfl (fun K hK => ?_); go_simp; refine hK _ ?_; clear hK K)
        refine wpPH_nil ?_
        repeat (refine wpQI_step rfl rfl (fun K hK => ?_); go_simp; first | (refine hK _ ?_; clear hK K) | (apply Exists.intro; refine ⟨fun _ => ?_, hK _ ?_⟩; (first | exact (HCW1.out _ _) | exact (HCW2.out _ _)); clear hK K))
        refine wpQI_nil ?_
        intro _ hw_
        obtain ⟨⟨dq, osq⟩, hw_⟩ := hw_
        subst hw_
        have hd := below_regrown w1 dq osq
        generalize Go.Sort.grow (redrawn w1 _) _ = W9 at *
        have hd9 := HD.out.trans (hd.mono HD.out.size)
        have h1 := HH.out.below hd9
        obtain ⟨m1, m2, m3, m4, m5, m6⟩ := h1.bkM
        have fi := m5 i'
        have ci9 := m3 i' (by omega)
        obtain ⟨h2, hb2⟩ := h1.bkSetM (k := i') (by omega) (wtoB mi j')
        obtain ⟨k1, k2, k3, k4, k5, k6⟩ := h2.bkM
        have fj := k5 j'
        have cj2 := k3 j' (by omega)
        obtain ⟨h3, hb3⟩ := h2.bkSetM (k := j') (by omega) (wtoB mj i')
        have H3 := Lib.hid h3
        have HB3 := Lib.hid ((hd9.mono hB).trans (hb2.trans hb3))
        have HN9 := Lib.hid (NC.of_below hd9)
        clear m1 m2 m3 m4 m5 m6 h1 h2 hb2 hb3 h3 k1 k2 k3 k4 k5 k6 hd hd9 ci cj cn ci_r cj_r
        repeat (refine wpPH_step rfl rfl (fun K hK => ?_); go_simp; refine hK _ ?_; clear hK K)
        refine wpPH_nil ?_
        refine wpSI_step rfl rfl (fun K hK => ?_); go_simp; refine hK _ _ ?_; clear hK K
        refine wpSI_stepV rfl rfl (fun K hK => ?_); go_simp; refine hK _ _ ?_; clear hK K
        refine wpSI_step rfl rfl (fun K hK => ?_); go_simp; refine hK _ _ ?_; clear hK K
        clear fi ci9 fj cj2 hi8 hj8
        have HN10 : Hid (NC w (World.setCell (World.setCell W9 ⟨g, i', none⟩ (.int .u64 ((wtoB mi j' : Nat) : Int))) ⟨g, j', none⟩ (.int .u64 ((wtoB mj i' : Nat) : Int)))) := Lib.hid ((HN9.out.trans (NC.setCell _ _ _)).trans (NC.setCell _ _ _))
        generalize hW : World.setCell (World.setCell W9 _ _) _ _ = W10 at *
        clear hW
        have h3 := H3.out
        have hsz := Nat.le_trans hB HB3.out.size
        have htb := (HTB.out.go HB3.out).1
        refine wpSI_nil ?_
        go_wp2_with fail
        have hr : ReadsI (W10.alloc (.cells #[.int .i64 (i' : Int), .int .i64 (j' : Int)] 3)) (W10.alloc (.cells #[.int .i64 (i' : Int), .int .i64 (j' : Int)] 3)).heap.size (some ⟨W10.heap.size, 0, none⟩) [(i' : Int), (j' : Int)] := lit_reads [(i' : Int), (j' : Int)] 3 W10
        have hal : Below W10.heap.size W10 (W10.alloc (.cells #[.int .i64 (i' : Int), .int .i64 (j' : Int)] 3)) := (Below.refl _ _).alloc (Nat.le_refl _) _
        have ho := HOK.out
        refine (bkDown_okN (l := [(i' : Int), (j' : Int)]) (cap := 2) (word := (⟨#[99]⟩ : ByteArray)) _ (htb.go hal) (h3.below hal) (Nat.le_trans hsz hal.size) hr (by simp) (by intro x hx; simp at hx; omega) (by decide) ho.2.1 ⟨ho.2.2.1, by have := ho.2.2.2; omega⟩).mono ?_
        rintro e W11 ⟨rfl, h4, hb4, hn4⟩
        have H4 := Lib.hid h4
        have HB4 := Lib.hid (HB3.out.trans ((hal.mono hsz).trans hb4))
        have HN4 := Lib.hid ((HN10.out.trans (NC.of_below hal)).trans hn4)
        clear h3 h4 hb4 hal hr htb hn4
        go_wp2_with fail
        go_ret
        refine ⟨ret_v rfl, ?_, HB4.out, HN4.out⟩
        show HP W11 B (its1 ++ bkI g (cutB b i' j') :: its2)
        unfold cutB bkI
        rw [Int.toNat_natCast, Int.toNat_natCast, HMI.out, HMJ.out]
        exact H4.out
  · rw [if_neg c1]
    rw [errV_pos _ c1] at HC
    go_enter Tryz.func30, Tryz.ntmps30
    go_wp2_with fail
    refine HC.out.mono ?_; rintro e w1 ⟨rfl, hd⟩
    have HD := Lib.hid hd; clear hd
    go_wp2_with fail
    go_ret
    exact ⟨ret_v (by rw [errV_pos _ c1]; rfl), HH.out.below HD.out, HD.out.mono hB, NC.of_below HD.out⟩
theorem mCut_ok {B g : Nat} {its1 its2 : List It} {b : BkT} {i j : Int} {r : Int × BkT} (w : World) (htb : TabB B w) (h : HP w B (its1 ++ bkI g b :: its2)) (hB : B ≤ w.heap.size) (hm : mCut b i j = some r) :
    Calls Tryz.prog 30 #[.pointer (some ⟨g, 0, none⟩), .int .i64 i, .int .i64 j] w fun e w' =>
      e = .returned (errV 75 r.1) ∧ HP w' B (its1 ++ bkI g r.2 :: its2) ∧ Below B w w' :=
  (mCut_okN w htb h hB hm).mono fun _ _ h_ => ⟨h_.1, h_.2.1, h_.2.2.1⟩
end Go.Proofs.YtecllcpjjllogaaGreatDoor
/- new, text -/
set_option linter.all false
set_option maxRecDepth 100000
namespace Go.Proofs.YtecllcpjjllogaaGreatDoor
open Go.RowKit Go.Shelf Pl
def newB : BkT := ([0, 0, 0, 0, 0, 0, 0, 0], (⟨#[]⟩ : ByteArray), 0)
theorem bkNew_ok (w : World) :
    Calls Tryz.prog 8 #[] w fun e w' => ∃ g, e = .returned (.pointer (some ⟨g, 0, none⟩)) ∧ HP w' w.heap.size [bkI g newB] ∧ Below w.heap.size w w' := by
  go_enter Tryz.func8, Tryz.ntmps8
  go_wp2
  go_ret
  refine ⟨_, rfl, ?_, (Below.refl _ _).alloc (Nat.le_refl _) _⟩
  refine ⟨[owBk w.heap.size (.pointer none) (.slice none 0 0) newB.1 0, owU (.slice none 0 0) newB.2.1], ⟨?_, ?_⟩, .bk _ ⟨.inl rfl, .inl rfl⟩ .nil⟩
  · intro o ho
    simp only [List.mem_cons, List.not_mem_nil, or_false] at ho
    rcases ho with rfl | rfl
    · have := own_lit (w := w) (base := w.heap.size) (n := 1) (e := 48) (bkCells (.pointer none) (.slice none 0 0) newB.1 0).toArray 11 (by rfl) (Nat.le_refl _) (by unfold maxLen; omega)
      exact this
    · exact World.ownsRowF_nil _ _ _ _
  · refine List.pairwise_cons.2 ⟨fun o ho => ?_, List.pairwise_singleton _ _⟩
    obtain rfl := List.mem_singleton.1 ho
    intro g _ h; cases h
theorem bkText_okN {B g : Nat} {its1 its2 : List It} {b : BkT} (w : World) (h : HP w B (its1 ++ bkI g b :: its2)) (hB : B ≤ w.heap.size) :
    Calls Tryz.prog 34 #[.pointer (some ⟨g, 0, none⟩)] w fun e w' => e = .returned (.string b.2.1) ∧ HP w' B (its1 ++ bkI g b :: its2) ∧ Below B w w' ∧ NC w w' := by
  go_enter Tryz.func34, Tryz.ntmps34
  go_wp2_with fail
  refine (bkString_okN w h hB).mono ?_; rintro e w' ⟨rfl, h2, hb, hn⟩
  go_wp2_with fail
  go_ret
  exact ⟨rfl, h2, hb, hn⟩
theorem bkText_ok {B g : Nat} {its1 its2 : List It} {b : BkT} (w : World) (h : HP w B (its1 ++ bkI g b :: its2)) (hB : B ≤ w.heap.size) :
    Calls Tryz.prog 34 #[.pointer (some ⟨g, 0, none⟩)] w fun e w' => e = .returned (.string b.2.1) ∧ HP w' B (its1 ++ bkI g b :: its2) ∧ Below B w w' :=
  (bkText_okN w h hB).mono fun _ _ h_ => ⟨h_.1, h_.2.1, h_.2.2.1⟩
/-- the masks, read -/
def ReadsBk (w : World) (g : Nat) (ms : List Nat) : Prop := g < w.heap.size ∧ ms.length = 8 ∧ ∀ k, k < 8 → w.cell? ⟨g, k, none⟩ = some (.int .u64 ((ms.getD k 0 : Nat) : Int))
theorem rdBk {w W : World} {g : Nat} {ms : List Nat} (hb : Below w.heap.size w W) (h : ReadsBk w g ms) : ReadsBk W g ms :=
  ⟨Nat.lt_of_lt_of_le h.1 hb.size, h.2.1, fun k hk => (hb.cell (p := ⟨g, k, none⟩) h.1).trans (h.2.2 k hk)⟩
theorem ReadsBk.ix {w : World} {g : Nat} {ms : List Nat} {i : Int} {y : Nat} (h : ReadsBk w g ms) (hy : ix ms i = some y) : 0 ≤ i ∧ i < 8 ∧ w.cell? ⟨g, i.toNat, none⟩ = some (.int .u64 ((y : Nat) : Int)) := by
  unfold Go.Proofs.YtecllcpjjllogaaGreatDoor.ix at hy
  split at hy
  · rename_i h0
    obtain ⟨h1, h2⟩ := List.getElem?_eq_some_iff.1 hy
    have h8 := h.2.1
    refine ⟨h0, by omega, ?_⟩
    rw [h.2.2 i.toNat (by omega), List.getD_eq_getElem?_getD, hy]; rfl
  · cases hy
theorem HP.rdBk {W : World} {B g : Nat} {its1 its2 : List It} {b : BkT} (h : HP W B (its1 ++ bkI g b :: its2)) : ReadsBk W g b.1 := by
  obtain ⟨m1, m2, m3, m4, m5, m6⟩ := h.bkM
  exact ⟨World.block_lt_of_cell? _ _ m4, m2, m3⟩
theorem HP.callIt {W W' : World} {B : Nat} {its its' : List It} (h : HP W B its) (hb : Below W.heap.size W W') (hB : B ≤ W.heap.size) (ho : HP W' W.heap.size its') : HP W' B (its' ++ its) := by
  obtain ⟨L, h1, h2⟩ := h
  obtain ⟨L', h3, h4⟩ := ho
  have h1' := h1.below hb
  refine ⟨L' ++ L, ⟨fun x hx => ?_, List.pairwise_append.2 ⟨h3.2, h1.2, fun x hx y hy g hg hyg => ?_⟩⟩, Fl.join h4 h2⟩
  · rcases List.mem_append.1 hx with hx | hx
    · exact Ow.ok.weak (h3.1 x hx) hB
    · exact h1'.1 x hx
  · have a1 := (Ow.ok.lt (h3.1 x hx) g hg).1
    have a2 := (Ow.ok.lt (h1.1 y hy) g hyg).2
    omega
def bkNewM : Option BkT := some newB
theorem bkNewM_ok {y : BkT} (w : World) (h : bkNewM = some y) : Calls Tryz.prog 8 #[] w fun e w' => ∃ g, e = .returned (.pointer (some ⟨g, 0, none⟩)) ∧ HP w' w.heap.size [bkI g y] ∧ Below w.heap.size w w' := by
  obtain rfl := Option.some.inj h
  exact bkNew_ok w
def mText (b : BkT) : Option ByteArray := some b.2.1
theorem mText_ok {B g : Nat} {its1 its2 : List It} {b : BkT} {y : ByteArray} (w : World) (h : HP w B (its1 ++ bkI g b :: its2)) (hB : B ≤ w.heap.size) (hm : mText b = some y) :
    Calls Tryz.prog 34 #[.pointer (some ⟨g, 0, none⟩)] w fun e w' => e = .returned (.string y) ∧ HP w' B (its1 ++ bkI g b :: its2) ∧ Below B w w' := by
  obtain rfl := Option.some.inj hm
  exact bkText_ok w h hB
theorem mJoin_ok2 {B g : Nat} {its1 its2 : List It} {b b' : BkT} {i j e1 : Int} (w : World) (htb : TabB B w) (h : HP w B (its1 ++ bkI g b :: its2)) (hB : B ≤ w.heap.size) (hm : mJoin b i j = some (e1, b')) :
    Calls Tryz.prog 29 #[.pointer (some ⟨g, 0, none⟩), .int .i64 i, .int .i64 j] w fun e w' => e = .returned (errV 75 e1) ∧ HP w' B (its1 ++ bkI g b' :: its2) ∧ Below B w w' := mJoin_ok w htb h hB hm
theorem mCut_ok2 {B g : Nat} {its1 its2 : List It} {b b' : BkT} {i j e1 : Int} (w : World) (htb : TabB B w) (h : HP w B (its1 ++ bkI g b :: its2)) (hB : B ≤ w.heap.size) (hm : mCut b i j = some (e1, b')) :
    Calls Tryz.prog 30 #[.pointer (some ⟨g, 0, none⟩), .int .i64 i, .int .i64 j] w fun e w' => e = .returned (errV 75 e1) ∧ HP w' B (its1 ++ bkI g b' :: its2) ∧ Below B w w' := mCut_ok w htb h hB hm
end Go.Proofs.YtecllcpjjllogaaGreatDoor
