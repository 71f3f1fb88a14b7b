import Derived.Test.YtfaemblfffbmfaaR3
import Derived.Test.YtfaemblfffbmfaaR4
import Derived.Test.YtfaemblfffbmfaaR6
set_option linter.all false
set_option maxRecDepth 100000
namespace Go.Proofs.Ytfaemblfffbmfaa
open Go.RowKit
def L4_rankFact (F : Nat)  : Option (Bool) := (rank_Fair F (3) ([[0, 1], [2]])).bind fun y1 => (rank_Greedy F (3) ([[0, 1], [2]]) ([2, 2, 3])).bind fun y2 => (rank_Best F (3) ([[0, 1], [2]]) ([2, 2, 3])).bind fun y3 => ((((((if (y1.2 == 0) = true then if (y2.2.2 == 0) = true then some true else some false else some false).bind fun b9 => if b9 = true then if (y3.2 == 0) = true then some true else some false else some false).bind fun b8 => if b8 = true then if y1.1 = true then some false else some true else some false).bind fun b7 => if b7 = true then if (y2.2.1 == 3) = true then some true else some false else some false).bind fun b6 => if b6 = true then if (y3.1 == 4) = true then some true else some false else some false).bind fun b5 => if b5 = true then (SE_Ints F (y2.1) ([2])).bind fun y10 => if y10 = true then some true else some false else some false).bind fun b4 => some (b4)
set_option maxRecDepth 100000 in
set_option maxHeartbeats 4000000 in
theorem L4_rankFact_ok {F : Nat}  {r : Bool} (w : World)  (h : L4_rankFact F  = some r) :
    Calls Try.prog 6 #[] w fun e w' => e = .returned (.bool r) ∧ Below w.heap.size w w' := by
  have HD := Lib.hid (Below.refl w.heap.size w)
  have HOA := Lib.hid (HP.nil (W := w) (B := w.heap.size))
  unfold L4_rankFact at h
  have HM := Lib.hid h; clear h
  go_enter Try.func6, Try.ntmps6
  have hd : Below w.heap.size w (World.alloc w (.cells #[Value.int .i64 (0), Value.int .i64 (1)] 3)) := (Below.refl _ _).alloc (Nat.le_refl _) _
  have ho : (owI (.slice (some ⟨w.heap.size, 0, none⟩) 2 2) [0, 1]).ok (World.alloc w (.cells #[Value.int .i64 (0), Value.int .i64 (1)] 3)) w.heap.size := litI_ok w [0, 1] (by unfold maxLen; simp)
  replace HOA := Lib.hid (HOA.out.call hd HD.out.size ho); clear ho
  replace HD := Lib.hid (HD.out.trans (hd.mono HD.out.size))
  clear hd
  have hd : Below (World.alloc w (.cells #[Value.int .i64 (0), Value.int .i64 (1)] 3)).heap.size (World.alloc w (.cells #[Value.int .i64 (0), Value.int .i64 (1)] 3)) (World.alloc (World.alloc w (.cells #[Value.int .i64 (0), Value.int .i64 (1)] 3)) (.cells #[Value.int .i64 (2)] 3)) := (Below.refl _ _).alloc (Nat.le_refl _) _
  have ho : (owI (.slice (some ⟨(World.alloc w (.cells #[Value.int .i64 (0), Value.int .i64 (1)] 3)).heap.size, 0, none⟩) 1 1) [2]).ok (World.alloc (World.alloc w (.cells #[Value.int .i64 (0), Value.int .i64 (1)] 3)) (.cells #[Value.int .i64 (2)] 3)) (World.alloc w (.cells #[Value.int .i64 (0), Value.int .i64 (1)] 3)).heap.size := litI_ok (World.alloc w (.cells #[Value.int .i64 (0), Value.int .i64 (1)] 3)) [2] (by unfold maxLen; simp)
  replace HOA := Lib.hid (HOA.out.call hd HD.out.size ho); clear ho
  simp only [World.size_alloc] at HOA
  replace HD := Lib.hid (HD.out.trans (hd.mono HD.out.size))
  clear hd
  replace HOA := Lib.hid (HP.mv (its1 := [_]) HOA.out)
  replace HOA := Lib.hid (show HP _ _ [.fl (owI (.slice (some ⟨w.heap.size, 0, none⟩) 2 2) ([0, 1])), .fl (owI (.slice (some ⟨w.heap.size + 1, 0, none⟩) 1 1) ([2]))] from HOA.out)
  have hd : Below w.heap.size (World.alloc (World.alloc w (.cells #[Value.int .i64 (0), Value.int .i64 (1)] 3)) (.cells #[Value.int .i64 (2)] 3)) (World.alloc (World.alloc (World.alloc w (.cells #[Value.int .i64 (0), Value.int .i64 (1)] 3)) (.cells #[Value.int .i64 (2)] 3)) (.cells #[(.slice (some ⟨w.heap.size, 0, none⟩) 2 2), (.slice (some ⟨w.heap.size + 1, 0, none⟩) 1 1)] 23)) := (Below.refl _ _).alloc HD.out.size _
  have hp := HP.litR (rs := [((.slice (some ⟨w.heap.size, 0, none⟩) 2 2), [0, 1]), ((.slice (some ⟨w.heap.size + 1, 0, none⟩) 1 1), [2])]) HOA.out HD.out.size (by unfold maxLen; simp)
  simp only [World.size_alloc] at hp
  replace HOA := Lib.hid (show HP (World.alloc (World.alloc (World.alloc w (.cells #[Value.int .i64 (0), Value.int .i64 (1)] 3)) (.cells #[Value.int .i64 (2)] 3)) (.cells #[(.slice (some ⟨w.heap.size, 0, none⟩) 2 2), (.slice (some ⟨w.heap.size + 1, 0, none⟩) 1 1)] 23)) w.heap.size [.ro (.slice (some ⟨w.heap.size + 1 + 1, 0, none⟩) 2 2) ([[0, 1], [2]])] from hp); clear hp
  have hd_ : Below (World.alloc (World.alloc w (.cells #[Value.int .i64 (0), Value.int .i64 (1)] 3)) (.cells #[Value.int .i64 (2)] 3)).heap.size (World.alloc (World.alloc w (.cells #[Value.int .i64 (0), Value.int .i64 (1)] 3)) (.cells #[Value.int .i64 (2)] 3)) (World.alloc (World.alloc (World.alloc w (.cells #[Value.int .i64 (0), Value.int .i64 (1)] 3)) (.cells #[Value.int .i64 (2)] 3)) (.cells #[(.slice (some ⟨w.heap.size, 0, none⟩) 2 2), (.slice (some ⟨w.heap.size + 1, 0, none⟩) 1 1)] 23)) := (Below.refl _ _).alloc (Nat.le_refl _) _
  replace HD := Lib.hid (HD.out.trans hd); clear hd hd_
  go_upto_region 2 with (fail)
  generalize hW : World.alloc (World.alloc (World.alloc w _) _) _ = W5 at *
  clear hW
  obtain ⟨⟨y9, y10⟩, hy7, hm⟩ := obind HM.out
  dsimp only at hm
  replace HM := Lib.hid hm; clear hm
  have HC8 := rank_Fair_ok W5 2 (HP.rd_R HOA.out (List.Mem.head _)) hy7
  clear hy7
  try rw [← HP.len_R HOA.out (List.Mem.head _)] at HC8
  replace HC8 := Lib.hid HC8
  go_wp2_with fail
  refine HC8.out.mono ?_; rintro e W11 ⟨rfl, hd⟩
  replace HOA := Lib.hid (HOA.out.below hd)
  replace HD := Lib.hid (HD.out.trans (hd.mono HD.out.size))
  clear hd
  have hd : Below W11.heap.size W11 (World.alloc W11 (.cells #[Value.int .i64 (2), Value.int .i64 (2), Value.int .i64 (3)] 3)) := (Below.refl _ _).alloc (Nat.le_refl _) _
  have ho : (owI (.slice (some ⟨W11.heap.size, 0, none⟩) 3 3) [2, 2, 3]).ok (World.alloc W11 (.cells #[Value.int .i64 (2), Value.int .i64 (2), Value.int .i64 (3)] 3)) W11.heap.size := litI_ok W11 [2, 2, 3] (by unfold maxLen; simp)
  replace HOA := Lib.hid (HOA.out.call hd HD.out.size ho); clear ho
  replace HD := Lib.hid (HD.out.trans (hd.mono HD.out.size))
  clear hd
  obtain ⟨⟨y16, y17, y18⟩, hy14, hm⟩ := obind HM.out
  dsimp only at hm
  replace HM := Lib.hid hm; clear hm
  have HC15 := rank_Greedy_ok (World.alloc W11 (.cells #[Value.int .i64 (2), Value.int .i64 (2), Value.int .i64 (3)] 3)) 2 (HP.rd_R HOA.out (List.Mem.tail _ (List.Mem.head _))) 3 (HP.rd_I HOA.out (List.Mem.head _)) hy14
  clear hy14
  try rw [← HP.len_R HOA.out (List.Mem.tail _ (List.Mem.head _))] at HC15
  try rw [← HP.len_I HOA.out (List.Mem.head _)] at HC15
  replace HC15 := Lib.hid HC15
  go_wp2_with fail
  refine HC15.out.mono ?_; rintro e W19 ⟨V20, rfl, ho, hd⟩
  replace HOA := Lib.hid (HOA.out.call hd HD.out.size ho); clear ho
  replace HD := Lib.hid (HD.out.trans (hd.mono HD.out.size))
  clear hd
  have hd : Below W19.heap.size W19 (World.alloc W19 (.cells #[Value.int .i64 (2), Value.int .i64 (2), Value.int .i64 (3)] 3)) := (Below.refl _ _).alloc (Nat.le_refl _) _
  have ho : (owI (.slice (some ⟨W19.heap.size, 0, none⟩) 3 3) [2, 2, 3]).ok (World.alloc W19 (.cells #[Value.int .i64 (2), Value.int .i64 (2), Value.int .i64 (3)] 3)) W19.heap.size := litI_ok W19 [2, 2, 3] (by unfold maxLen; simp)
  replace HOA := Lib.hid (HOA.out.call hd HD.out.size ho); clear ho
  replace HD := Lib.hid (HD.out.trans (hd.mono HD.out.size))
  clear hd
  obtain ⟨⟨y26, y27⟩, hy24, hm⟩ := obind HM.out
  dsimp only at hm
  replace HM := Lib.hid hm; clear hm
  have HC25 := rank_Best_ok (World.alloc W19 (.cells #[Value.int .i64 (2), Value.int .i64 (2), Value.int .i64 (3)] 3)) 2 (HP.rd_R HOA.out (List.Mem.tail _ (List.Mem.tail _ (List.Mem.tail _ (List.Mem.head _))))) 3 (HP.rd_I HOA.out (List.Mem.head _)) hy24
  clear hy24
  try rw [← HP.len_R HOA.out (List.Mem.tail _ (List.Mem.tail _ (List.Mem.tail _ (List.Mem.head _))))] at HC25
  try rw [← HP.len_I HOA.out (List.Mem.head _)] at HC25
  replace HC25 := Lib.hid HC25
  go_wp2_with fail
  refine HC25.out.mono ?_; rintro e W28 ⟨rfl, hd⟩
  replace HOA := Lib.hid (HOA.out.below hd)
  replace HD := Lib.hid (HD.out.trans (hd.mono HD.out.size))
  clear hd
  obtain ⟨b29, hb, hm⟩ := obind HM.out
  replace HM := Lib.hid hm; have HB30 := Lib.hid hb; clear hm hb
  obtain ⟨b31, hb, hm⟩ := obind HB30.out
  replace HB30 := Lib.hid hm; have HB32 := Lib.hid hb; clear hm hb
  obtain ⟨b33, hb, hm⟩ := obind HB32.out
  replace HB32 := Lib.hid hm; have HB34 := Lib.hid hb; clear hm hb
  obtain ⟨b35, hb, hm⟩ := obind HB34.out
  replace HB34 := Lib.hid hm; have HB36 := Lib.hid hb; clear hm hb
  obtain ⟨b37, hb, hm⟩ := obind HB36.out
  replace HB36 := Lib.hid hm; have HB38 := Lib.hid hb; clear hm hb
  obtain ⟨b39, hb, hm⟩ := obind HB38.out
  replace HB38 := Lib.hid hm; have HB40 := Lib.hid hb; clear hm hb
  by_cases hz41 : y10 = 0
  · subst hz41
    try simp only [errV_zero]
    replace HB40 := Lib.hid (ifT (by decide) HB40.out)
    by_cases hz43 : y18 = 0
    · subst hz43
      try simp only [errV_zero]
      replace HB40 := Lib.hid (ifT (by decide) HB40.out)
      obtain rfl := Option.some.inj HB40.out
      replace HB38 := Lib.hid (ifT (by first | rfl | trivial) HB38.out)
      by_cases hz45 : y27 = 0
      · subst hz45
        try simp only [errV_zero]
        replace HB38 := Lib.hid (ifT (by decide) HB38.out)
        obtain rfl := Option.some.inj HB38.out
        replace HB36 := Lib.hid (ifT (by first | rfl | trivial) HB36.out)
        cases y9
        · replace HB36 := Lib.hid (ifF Bool.false_ne_true HB36.out)
          obtain rfl := Option.some.inj HB36.out
          replace HB34 := Lib.hid (ifT (by first | rfl | trivial) HB34.out)
          rcases Bool.eq_false_or_eq_true (y17 == 3) with hc47 | hc47
          · replace HB34 := Lib.hid (ifT hc47 HB34.out)
            have HK48 := Lib.hid hc47
            obtain rfl := Option.some.inj HB34.out
            replace HB32 := Lib.hid (ifT (by first | rfl | trivial) HB32.out)
            rcases Bool.eq_false_or_eq_true (y26 == 4) with hc49 | hc49
            · replace HB32 := Lib.hid (ifT hc49 HB32.out)
              have HK50 := Lib.hid hc49
              obtain rfl := Option.some.inj HB32.out
              replace HB30 := Lib.hid (ifT (by first | rfl | trivial) HB30.out)
              have hd : Below W28.heap.size W28 (World.alloc W28 (.cells #[Value.int .i64 (2)] 3)) := (Below.refl _ _).alloc (Nat.le_refl _) _
              have ho : (owI (.slice (some ⟨W28.heap.size, 0, none⟩) 1 1) [2]).ok (World.alloc W28 (.cells #[Value.int .i64 (2)] 3)) W28.heap.size := litI_ok W28 [2] (by unfold maxLen; simp)
              replace HOA := Lib.hid (HOA.out.call hd HD.out.size ho); clear ho
              replace HD := Lib.hid (HD.out.trans (hd.mono HD.out.size))
              clear hd
              obtain ⟨y55, hy53, hm⟩ := obind HB30.out
              replace HB30 := Lib.hid hm; clear hm
              obtain ⟨A56, cap57, he, _⟩ := HP.open_I HOA.out (List.Mem.tail _ (List.Mem.tail _ (List.Mem.head _)))
              subst he
              have HC54 := SE_Ints_ok (World.alloc W28 (.cells #[Value.int .i64 (2)] 3)) cap57 (HP.rd_I HOA.out (List.Mem.tail _ (List.Mem.tail _ (List.Mem.head _)))) 1 (HP.rd_I HOA.out (List.Mem.head _)) hy53
              clear hy53
              try rw [← HP.len_I HOA.out (List.Mem.head _)] at HC54
              replace HC54 := Lib.hid HC54
              go_wp2_with fail
              refine HC54.out.mono ?_; rintro e W58 ⟨rfl, hd⟩
              try clear hc47 hc49
              replace HOA := Lib.hid (HOA.out.below (hd.below _))
              replace HD := Lib.hid (HD.out.trans ((hd.below _).mono HD.out.size))
              clear hd
              cases y55
              · replace HB30 := Lib.hid (ifF Bool.false_ne_true HB30.out)
                obtain rfl := Option.some.inj HB30.out
                obtain rfl := Option.some.inj HM.out
                go_wp2_with fail
                go_ret
                exact ⟨rfl, HD.out⟩
              · replace HB30 := Lib.hid (ifT rfl HB30.out)
                obtain rfl := Option.some.inj HB30.out
                obtain rfl := Option.some.inj HM.out
                go_wp2_with fail
                go_ret
                exact ⟨rfl, HD.out⟩
            · replace HB32 := Lib.hid (ifF (bF hc49) HB32.out)
              have HK50 := Lib.hid hc49
              obtain rfl := Option.some.inj HB32.out
              replace HB30 := Lib.hid (ifF (by first | exact Bool.false_ne_true | exact not_false) HB30.out)
              obtain rfl := Option.some.inj HB30.out
              obtain rfl := Option.some.inj HM.out
              go_wp2_with fail
              go_ret
              exact ⟨(by first | rfl | (refine congrArg (fun b => Ending.returned (Value.bool b)) ?_; first | (exact decide_eq_true (by omega)) | (exact decide_eq_false (by omega)) | (have q := hc47; rw [bne_iff_ne] at q ⊢; omega) | (have q := hc47; rw [bne_eq_false_iff_eq] at q ⊢; omega) | (have q := hc47; rw [beq_iff_eq] at q ⊢; omega) | (have q := hc47; rw [beq_eq_false_iff_ne] at q ⊢; omega) | (have q := hc49; rw [bne_iff_ne] at q ⊢; omega) | (have q := hc49; rw [bne_eq_false_iff_eq] at q ⊢; omega) | (have q := hc49; rw [beq_iff_eq] at q ⊢; omega) | (have q := hc49; rw [beq_eq_false_iff_ne] at q ⊢; omega))), HD.out⟩
          · replace HB34 := Lib.hid (ifF (bF hc47) HB34.out)
            have HK48 := Lib.hid hc47
            obtain rfl := Option.some.inj HB34.out
            replace HB32 := Lib.hid (ifF (by first | exact Bool.false_ne_true | exact not_false) HB32.out)
            obtain rfl := Option.some.inj HB32.out
            replace HB30 := Lib.hid (ifF (by first | exact Bool.false_ne_true | exact not_false) HB30.out)
            obtain rfl := Option.some.inj HB30.out
            obtain rfl := Option.some.inj HM.out
            go_wp2_with fail
            go_ret
            exact ⟨(by first | rfl | (refine congrArg (fun b => Ending.returned (Value.bool b)) ?_; first | (exact decide_eq_true (by omega)) | (exact decide_eq_false (by omega)) | (have q := hc47; rw [bne_iff_ne] at q ⊢; omega) | (have q := hc47; rw [bne_eq_false_iff_eq] at q ⊢; omega) | (have q := hc47; rw [beq_iff_eq] at q ⊢; omega) | (have q := hc47; rw [beq_eq_false_iff_ne] at q ⊢; omega))), HD.out⟩
        · replace HB36 := Lib.hid (ifT rfl HB36.out)
          obtain rfl := Option.some.inj HB36.out
          replace HB34 := Lib.hid (ifF (by first | exact Bool.false_ne_true | exact not_false) HB34.out)
          obtain rfl := Option.some.inj HB34.out
          replace HB32 := Lib.hid (ifF (by first | exact Bool.false_ne_true | exact not_false) HB32.out)
          obtain rfl := Option.some.inj HB32.out
          replace HB30 := Lib.hid (ifF (by first | exact Bool.false_ne_true | exact not_false) HB30.out)
          obtain rfl := Option.some.inj HB30.out
          obtain rfl := Option.some.inj HM.out
          go_wp2_with fail
          go_ret
          exact ⟨rfl, HD.out⟩
      · try rw [errV_pos _ hz45]
        have HZ46 := Lib.hid hz45; clear hz45
        replace HB38 := Lib.hid (ifF (fun h => HZ46.out (eq_of_beq h)) HB38.out)
        obtain rfl := Option.some.inj HB38.out
        replace HB36 := Lib.hid (ifF (by first | exact Bool.false_ne_true | exact not_false) HB36.out)
        obtain rfl := Option.some.inj HB36.out
        replace HB34 := Lib.hid (ifF (by first | exact Bool.false_ne_true | exact not_false) HB34.out)
        obtain rfl := Option.some.inj HB34.out
        replace HB32 := Lib.hid (ifF (by first | exact Bool.false_ne_true | exact not_false) HB32.out)
        obtain rfl := Option.some.inj HB32.out
        replace HB30 := Lib.hid (ifF (by first | exact Bool.false_ne_true | exact not_false) HB30.out)
        obtain rfl := Option.some.inj HB30.out
        obtain rfl := Option.some.inj HM.out
        go_wp2_with fail
        go_ret
        exact ⟨rfl, HD.out⟩
    · try rw [errV_pos _ hz43]
      have HZ44 := Lib.hid hz43; clear hz43
      replace HB40 := Lib.hid (ifF (fun h => HZ44.out (eq_of_beq h)) HB40.out)
      obtain rfl := Option.some.inj HB40.out
      replace HB38 := Lib.hid (ifF (by first | exact Bool.false_ne_true | exact not_false) HB38.out)
      obtain rfl := Option.some.inj HB38.out
      replace HB36 := Lib.hid (ifF (by first | exact Bool.false_ne_true | exact not_false) HB36.out)
      obtain rfl := Option.some.inj HB36.out
      replace HB34 := Lib.hid (ifF (by first | exact Bool.false_ne_true | exact not_false) HB34.out)
      obtain rfl := Option.some.inj HB34.out
      replace HB32 := Lib.hid (ifF (by first | exact Bool.false_ne_true | exact not_false) HB32.out)
      obtain rfl := Option.some.inj HB32.out
      replace HB30 := Lib.hid (ifF (by first | exact Bool.false_ne_true | exact not_false) HB30.out)
      obtain rfl := Option.some.inj HB30.out
      obtain rfl := Option.some.inj HM.out
      go_wp2_with fail
      go_ret
      exact ⟨rfl, HD.out⟩
  · try rw [errV_pos _ hz41]
    have HZ42 := Lib.hid hz41; clear hz41
    replace HB40 := Lib.hid (ifF (fun h => HZ42.out (eq_of_beq h)) HB40.out)
    obtain rfl := Option.some.inj HB40.out
    replace HB38 := Lib.hid (ifF (by first | exact Bool.false_ne_true | exact not_false) HB38.out)
    obtain rfl := Option.some.inj HB38.out
    replace HB36 := Lib.hid (ifF (by first | exact Bool.false_ne_true | exact not_false) HB36.out)
    obtain rfl := Option.some.inj HB36.out
    replace HB34 := Lib.hid (ifF (by first | exact Bool.false_ne_true | exact not_false) HB34.out)
    obtain rfl := Option.some.inj HB34.out
    replace HB32 := Lib.hid (ifF (by first | exact Bool.false_ne_true | exact not_false) HB32.out)
    obtain rfl := Option.some.inj HB32.out
    replace HB30 := Lib.hid (ifF (by first | exact Bool.false_ne_true | exact not_false) HB30.out)
    obtain rfl := Option.some.inj HB30.out
    obtain rfl := Option.some.inj HM.out
    go_wp2_with fail
    go_ret
    exact ⟨rfl, HD.out⟩
def L4_RankRado (F : Nat) (v0 : Int) (v1 : List (List Int)) (v2 : List Int) : Option (Bool) := (L4_rankFact F ).bind fun y1 => (if y1 = true then (rank_Fair F (v0) (v1)).bind fun y2 => (if (y2.2 != 0) = true then (if y2.1 = true then some false else some true).bind fun b3 => some (b3) else (rank_Greedy F (v0) (v1) (v2)).bind fun y4 => (rank_Best F (v0) (v1) (v2)).bind fun y5 => ((if (y4.2.2 != 0) = true then some true else if (y5.2 != 0) = true then some true else some false).bind fun b6 => if b6 = true then (if (y4.2.2 != 0) = true then if (y5.2 != 0) = true then some true else some false else some false).bind fun b7 => some (b7) else (if y4.2.1 ≤ y5.1 then if y2.1 = true then if (y4.2.1 == y5.1) = true then some true else some false else some true else some false).bind fun b8 => some (b8))) else some (false))
set_option maxRecDepth 100000 in
set_option maxHeartbeats 4000000 in
theorem L4_RankRado_ok {F : Nat} {v0 : Int} {v1 : List (List Int)} {A1 : Option Addr} {v2 : List Int} {A2 : Option Addr} {r : Bool} (w : World) (cap1 : Nat) (hr1 : ReadsR w w.heap.size A1 v1) (cap2 : Nat) (hr2 : ReadsI w w.heap.size A2 v2) (h : L4_RankRado F v0 v1 v2 = some r) :
    Calls Try.prog 3 #[.int .i64 v0, .slice A1 v1.length cap1, .slice A2 v2.length cap2] w fun e w' => e = .returned (.bool r) ∧ Below w.heap.size w w' := by
  have HR1 := Lib.hid hr1; clear hr1
  have HR2 := Lib.hid hr2; clear hr2
  have HD := Lib.hid (Below.refl w.heap.size w)
  have HOA := Lib.hid (HP.nil (W := w) (B := w.heap.size))
  unfold L4_RankRado at h
  have HM := Lib.hid h; clear h
  go_enter Try.func3, Try.ntmps3
  obtain ⟨y3, hy1, hm⟩ := obind HM.out
  replace HM := Lib.hid hm; clear hm
  have HC2 := L4_rankFact_ok w  hy1
  clear hy1
  replace HC2 := Lib.hid HC2
  go_wp2_with fail
  refine HC2.out.mono ?_; rintro e W4 ⟨rfl, hd⟩
  replace HOA := Lib.hid (HOA.out.below hd)
  replace HD := Lib.hid (HD.out.trans (hd.mono HD.out.size))
  clear hd
  cases y3
  · replace HM := Lib.hid (ifF Bool.false_ne_true HM.out)
    obtain rfl := Option.some.inj HM.out
    go_wp2_with fail
    go_ret
    exact ⟨rfl, HD.out⟩
  · replace HM := Lib.hid (ifT rfl HM.out)
    obtain ⟨⟨y7, y8⟩, hy5, hm⟩ := obind HM.out
    dsimp only at hm
    replace HM := Lib.hid hm; clear hm
    have HC6 := rank_Fair_ok W4 cap1 (rdR HD.out HR1.out) hy5
    clear hy5
    replace HC6 := Lib.hid HC6
    go_wp2_with fail
    refine HC6.out.mono ?_; rintro e W9 ⟨rfl, hd⟩
    replace HOA := Lib.hid (HOA.out.below hd)
    replace HD := Lib.hid (HD.out.trans (hd.mono HD.out.size))
    clear hd
    by_cases hz10 : y8 = 0
    · subst hz10
      try simp only [errV_zero]
      replace HM := Lib.hid (ifF (by decide) HM.out)
      obtain ⟨⟨y14, y15, y16⟩, hy12, hm⟩ := obind HM.out
      dsimp only at hm
      replace HM := Lib.hid hm; clear hm
      have HC13 := rank_Greedy_ok W9 cap1 (rdR HD.out HR1.out) cap2 (rdI HD.out HR2.out) hy12
      clear hy12
      replace HC13 := Lib.hid HC13
      go_wp2_with fail
      refine HC13.out.mono ?_; rintro e W17 ⟨V18, rfl, ho, hd⟩
      replace HOA := Lib.hid (HOA.out.call hd HD.out.size ho); clear ho
      replace HD := Lib.hid (HD.out.trans (hd.mono HD.out.size))
      clear hd
      obtain ⟨⟨y22, y23⟩, hy20, hm⟩ := obind HM.out
      dsimp only at hm
      replace HM := Lib.hid hm; clear hm
      have HC21 := rank_Best_ok W17 cap1 (rdR HD.out HR1.out) cap2 (rdI HD.out HR2.out) hy20
      clear hy20
      replace HC21 := Lib.hid HC21
      go_wp2_with fail
      refine HC21.out.mono ?_; rintro e W24 ⟨rfl, hd⟩
      replace HOA := Lib.hid (HOA.out.below hd)
      replace HD := Lib.hid (HD.out.trans (hd.mono HD.out.size))
      clear hd
      obtain ⟨b25, hb, hm⟩ := obind HM.out
      replace HM := Lib.hid hm; have HB26 := Lib.hid hb; clear hm hb
      by_cases hz27 : y16 = 0
      · subst hz27
        try simp only [errV_zero]
        replace HB26 := Lib.hid (ifF (by decide) HB26.out)
        by_cases hz29 : y23 = 0
        · subst hz29
          try simp only [errV_zero]
          replace HB26 := Lib.hid (ifF (by decide) HB26.out)
          obtain rfl := Option.some.inj HB26.out
          replace HM := Lib.hid (ifF (by first | exact Bool.false_ne_true | exact not_false) HM.out)
          obtain ⟨b31, hb, hm⟩ := obind HM.out
          replace HM := Lib.hid hm; have HB32 := Lib.hid hb; clear hm hb
          by_cases hc33 : y15 ≤ y22
          · replace HB32 := Lib.hid (ifT hc33 HB32.out)
            have HK34 := Lib.hid hc33
            cases y7
            · replace HB32 := Lib.hid (ifF Bool.false_ne_true HB32.out)
              obtain rfl := Option.some.inj HB32.out
              obtain rfl := Option.some.inj HM.out
              go_wp2_with fail
              go_ret
              exact ⟨(by first | rfl | (refine congrArg (fun b => Ending.returned (Value.bool b)) ?_; first | (exact decide_eq_true (by omega)) | (exact decide_eq_false (by omega)) | (have q := hc33; rw [bne_iff_ne] at q ⊢; omega) | (have q := hc33; rw [bne_eq_false_iff_eq] at q ⊢; omega) | (have q := hc33; rw [beq_iff_eq] at q ⊢; omega) | (have q := hc33; rw [beq_eq_false_iff_ne] at q ⊢; omega))), HD.out⟩
            · replace HB32 := Lib.hid (ifT rfl HB32.out)
              rcases Bool.eq_false_or_eq_true (y15 == y22) with hc35 | hc35
              · replace HB32 := Lib.hid (ifT hc35 HB32.out)
                have HK36 := Lib.hid hc35
                obtain rfl := Option.some.inj HB32.out
                obtain rfl := Option.some.inj HM.out
                go_wp2_with fail
                go_ret
                exact ⟨(by first | rfl | (refine congrArg (fun b => Ending.returned (Value.bool b)) ?_; first | (exact decide_eq_true (by omega)) | (exact decide_eq_false (by omega)) | (have q := hc33; rw [bne_iff_ne] at q ⊢; omega) | (have q := hc33; rw [bne_eq_false_iff_eq] at q ⊢; omega) | (have q := hc33; rw [beq_iff_eq] at q ⊢; omega) | (have q := hc33; rw [beq_eq_false_iff_ne] at q ⊢; omega) | (have q := hc35; rw [bne_iff_ne] at q ⊢; omega) | (have q := hc35; rw [bne_eq_false_iff_eq] at q ⊢; omega) | (have q := hc35; rw [beq_iff_eq] at q ⊢; omega) | (have q := hc35; rw [beq_eq_false_iff_ne] at q ⊢; omega))), HD.out⟩
              · replace HB32 := Lib.hid (ifF (bF hc35) HB32.out)
                have HK36 := Lib.hid hc35
                obtain rfl := Option.some.inj HB32.out
                obtain rfl := Option.some.inj HM.out
                go_wp2_with fail
                go_ret
                exact ⟨(by first | rfl | (refine congrArg (fun b => Ending.returned (Value.bool b)) ?_; first | (exact decide_eq_true (by omega)) | (exact decide_eq_false (by omega)) | (have q := hc33; rw [bne_iff_ne] at q ⊢; omega) | (have q := hc33; rw [bne_eq_false_iff_eq] at q ⊢; omega) | (have q := hc33; rw [beq_iff_eq] at q ⊢; omega) | (have q := hc33; rw [beq_eq_false_iff_ne] at q ⊢; omega) | (have q := hc35; rw [bne_iff_ne] at q ⊢; omega) | (have q := hc35; rw [bne_eq_false_iff_eq] at q ⊢; omega) | (have q := hc35; rw [beq_iff_eq] at q ⊢; omega) | (have q := hc35; rw [beq_eq_false_iff_ne] at q ⊢; omega))), HD.out⟩
          · replace HB32 := Lib.hid (ifF hc33 HB32.out)
            have hc33d := decide_eq_false hc33
            have HK34 := Lib.hid hc33
            obtain rfl := Option.some.inj HB32.out
            obtain rfl := Option.some.inj HM.out
            go_wp2_with fail
            go_ret
            exact ⟨(by first | rfl | (refine congrArg (fun b => Ending.returned (Value.bool b)) ?_; first | (exact decide_eq_true (by omega)) | (exact decide_eq_false (by omega)) | (have q := hc33; rw [bne_iff_ne] at q ⊢; omega) | (have q := hc33; rw [bne_eq_false_iff_eq] at q ⊢; omega) | (have q := hc33; rw [beq_iff_eq] at q ⊢; omega) | (have q := hc33; rw [beq_eq_false_iff_ne] at q ⊢; omega) | (have q := hc33d; rw [bne_iff_ne] at q ⊢; omega) | (have q := hc33d; rw [bne_eq_false_iff_eq] at q ⊢; omega) | (have q := hc33d; rw [beq_iff_eq] at q ⊢; omega) | (have q := hc33d; rw [beq_eq_false_iff_ne] at q ⊢; omega))), HD.out⟩
        · try rw [errV_pos _ hz29]
          have HZ30 := Lib.hid hz29; clear hz29
          replace HB26 := Lib.hid (ifT (bne_iff_ne.2 HZ30.out) HB26.out)
          obtain rfl := Option.some.inj HB26.out
          replace HM := Lib.hid (ifT (by first | rfl | trivial) HM.out)
          obtain ⟨b37, hb, hm⟩ := obind HM.out
          replace HM := Lib.hid hm; have HB38 := Lib.hid hb; clear hm hb
          replace HB38 := Lib.hid (ifF (by decide) HB38.out)
          obtain rfl := Option.some.inj HB38.out
          obtain rfl := Option.some.inj HM.out
          go_wp2_with fail
          go_ret
          exact ⟨rfl, HD.out⟩
      · try rw [errV_pos _ hz27]
        have HZ28 := Lib.hid hz27; clear hz27
        replace HB26 := Lib.hid (ifT (bne_iff_ne.2 HZ28.out) HB26.out)
        obtain rfl := Option.some.inj HB26.out
        replace HM := Lib.hid (ifT (by first | rfl | trivial) HM.out)
        obtain ⟨b39, hb, hm⟩ := obind HM.out
        replace HM := Lib.hid hm; have HB40 := Lib.hid hb; clear hm hb
        replace HB40 := Lib.hid (ifT (bne_iff_ne.2 HZ28.out) HB40.out)
        by_cases hz41 : y23 = 0
        · subst hz41
          try simp only [errV_zero]
          replace HB40 := Lib.hid (ifF (by decide) HB40.out)
          obtain rfl := Option.some.inj HB40.out
          obtain rfl := Option.some.inj HM.out
          go_wp2_with fail
          go_ret
          exact ⟨rfl, HD.out⟩
        · try rw [errV_pos _ hz41]
          have HZ42 := Lib.hid hz41; clear hz41
          replace HB40 := Lib.hid (ifT (bne_iff_ne.2 HZ42.out) HB40.out)
          obtain rfl := Option.some.inj HB40.out
          obtain rfl := Option.some.inj HM.out
          go_wp2_with fail
          go_ret
          exact ⟨rfl, HD.out⟩
    · try rw [errV_pos _ hz10]
      have HZ11 := Lib.hid hz10; clear hz10
      replace HM := Lib.hid (ifT (bne_iff_ne.2 HZ11.out) HM.out)
      obtain ⟨b43, hb, hm⟩ := obind HM.out
      replace HM := Lib.hid hm; have HB44 := Lib.hid hb; clear hm hb
      cases y7
      · replace HB44 := Lib.hid (ifF Bool.false_ne_true HB44.out)
        obtain rfl := Option.some.inj HB44.out
        obtain rfl := Option.some.inj HM.out
        go_wp2_with fail
        go_ret
        exact ⟨rfl, HD.out⟩
      · replace HB44 := Lib.hid (ifT rfl HB44.out)
        obtain rfl := Option.some.inj HB44.out
        obtain rfl := Option.some.inj HM.out
        go_wp2_with fail
        go_ret
        exact ⟨rfl, HD.out⟩
end Go.Proofs.Ytfaemblfffbmfaa
