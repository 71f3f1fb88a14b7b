import Derived.Test.YtecllcpjjllogaaDoorTl
import Derived.Laws.StructEq
import Derived.Test.YtecllcpjjllogaaDoorGR
/- two lines compared -/
set_option linter.all false
set_option maxRecDepth 100000
namespace Go.Proofs.YtecllcpjjllogaaDoor
open Go.RowKit
theorem eqLine (a b c d : Int) (w : World) : (Op.equalIn 10000 61 (.agg #[.int .i64 a, .int .i64 b]) (.agg #[.int .i64 c, .int .i64 d])).run Tryd.prog w = .ok (a == c && b == d) w := by
  have u3 := Tryd.underlying3
  have a3 := Tryd.isAgg3
  have z3 := Tryd.sizeOf3
  have hS : Tryd.prog.underlying 61 = some (.struct (Tryd.prog.fieldsOf 61)) := by kernel_rfl
  rw [show (10000 : Nat) = 9999 + 1 from rfl, run_equalIn_agg w 9999 61 _ _ hS (by kernel_rfl)]
  simp only [Program.fieldsOf, Tryd.underlying61]
  go_simp
  by_cases h1 : a = c <;> by_cases h2 : b = d <;> simp [h1, h2]
theorem guardLine : Tryd.prog.eqGuardType Tryd.prog.depth 61 = false := by kernel_rfl
theorem pairEq (y z : Int × Int) : (y.1 == z.1 && y.2 == z.2) = (y == z) := by
  rcases y with ⟨a, b⟩; rcases z with ⟨c, d⟩
  rfl
theorem pairNe (y z : Int × Int) : (!(y == z)) = (y != z) := rfl
end Go.Proofs.YtecllcpjjllogaaDoor
set_option linter.all false
set_option maxRecDepth 100000
namespace Go.Proofs.YtecllcpjjllogaaDoor
open Go.RowKit
attribute [local go_sem] eqLine guardLine
def SE_Lines_L1 (F : Nat) (v0 : List (Int × Int)) (v1 : List (Int × Int)) : Nat → (Int) → Option ((Int) ⊕ (Bool))
  | 0, _ => none
  | g+1, v3 => if v3 < ((v0).length : Int) then ((ix v0 v3).bind fun y1 => (ix v1 v3).bind fun y2 => if (y1 != y2) = true then some (.inr (false)) else SE_Lines_L1 F v0 v1 g ((wrap64 (v3 + 1)))) else some (.inl (v3))
theorem SE_Lines_L1_0 (F : Nat) (v0 : List (Int × Int)) (v1 : List (Int × Int)) (v3 : Int) : SE_Lines_L1 F v0 v1 0 v3 = none := by rw [SE_Lines_L1]
theorem SE_Lines_L1_s (F g : Nat) (v0 : List (Int × Int)) (v1 : List (Int × Int)) (v3 : Int) : SE_Lines_L1 F v0 v1 (g+1) v3 = (if v3 < ((v0).length : Int) then ((ix v0 v3).bind fun y1 => (ix v1 v3).bind fun y2 => if (y1 != y2) = true then some (.inr (false)) else SE_Lines_L1 F v0 v1 g ((wrap64 (v3 + 1)))) else some (.inl (v3))) := by rw [SE_Lines_L1]
def SE_Lines (F : Nat) (v0 : List (Int × Int)) (v1 : List (Int × Int)) : Option (Bool) := (if (((v0).length : Int) != ((v1).length : Int)) = true then some (false) else (SE_Lines_L1 F (v0) (v1) F (0)).bind fun o3 => match o3 with | .inr r => some (r) | .inl o3 => some (true))
set_option maxRecDepth 100000 in
set_option maxHeartbeats 1000000 in
theorem SE_Lines_ok {F : Nat} {v0 : List (Int × Int)} {A0 : Option Addr} {v1 : List (Int × Int)} {A1 : Option Addr} {r : Bool} (w : World) (cap0 : Nat) (hr0 : ReadsL w w.heap.size A0 v0) (cap1 : Nat) (hr1 : ReadsL w w.heap.size A1 v1) (h : SE_Lines F v0 v1 = some r) :
    Calls Tryd.prog 9 #[.slice A0 v0.length cap0, .slice A1 v1.length cap1] w fun e w' => e = .returned (.bool r) ∧ Dr w w' := by
  have HR0 := Lib.hid hr0; clear hr0
  have HR1 := Lib.hid hr1; clear hr1
  have HD := Lib.hid (Dr.refl w)
  unfold SE_Lines at h
  have HM := Lib.hid h; clear h
  go_enter Tryd.func9, Tryd.ntmps9
  rcases Bool.eq_false_or_eq_true (((v0).length : Int) != ((v1).length : Int)) with hc1 | hc1
  · replace HM := Lib.hid (ifT hc1 HM.out)
    obtain rfl := Option.some.inj HM.out
    go_wp2_with fail
    go_ret
    exact ⟨(by first | rfl | (refine congrArg (fun b => Ending.returned (Value.bool b)) ?_; first | (exact decide_eq_true (by omega)) | (exact decide_eq_false (by omega)))), HD.out⟩
  · replace HM := Lib.hid (ifF (bF hc1) HM.out)
    go_wp2_with fail
    try clear hc1
    obtain ⟨o2, ho, hm⟩ := obind HM.out
    replace HM := Lib.hid hm; have HL1 := Lib.hid ho; clear hm ho
    go_loopg [5] F (fun gg u4 wr => ∃ (x3 : Int), u4 = .int .i64 x3 ∧ Hid (Dr w wr) ∧ Hid (SE_Lines_L1 F (v0) (v1) gg x3 = some o2))
    case atStart => exact ⟨0, rfl, HD, HL1⟩
    case round =>
      obtain ⟨x3, rfl, HD, HL1⟩ := hrel
      rename World => W5
      cases gk with
      | zero => exact absurd ((SE_Lines_L1_0 ..).symm.trans HL1.out) (by intro h; cases h)
      | succ g1 =>
        replace HL1 := Lib.hid ((SE_Lines_L1_s ..).symm.trans HL1.out)
        by_cases hc6 : x3 < ((v0).length : Int)
        · replace HL1 := Lib.hid (ifT hc6 HL1.out)
          try go_wp2_with fail
          try clear hc6
          obtain ⟨y7, hy8, hm⟩ := obind HL1.out
          replace HL1 := Lib.hid hm; clear hm
          obtain ⟨b9, o10, ea11, _, f12, f13, f14, f15⟩ := ReadsL.ix (rdL (HD.out.below _) HR0.out) hy8
          cases ea11
          try simp only [Nat.zero_add, Nat.add_zero, Int.toNat_natCast, Int.toNat_zero, Int.toNat_one] at f14 f15
          have HY16 := Lib.hid hy8; clear hy8
          obtain ⟨y17, hy18, hm⟩ := obind HL1.out
          replace HL1 := Lib.hid hm; clear hm
          obtain ⟨b19, o20, ea21, _, f22, f23, f24, f25⟩ := ReadsL.ix (rdL (HD.out.below _) HR1.out) hy18
          cases ea21
          try simp only [Nat.zero_add, Nat.add_zero, Int.toNat_natCast, Int.toNat_zero, Int.toNat_one] at f24 f25
          have HY26 := Lib.hid hy18; clear hy18
          rcases Bool.eq_false_or_eq_true (y7 != y17) with hc27 | hc27
          · replace HL1 := Lib.hid (ifT hc27 HL1.out)
            have hne : y7 ≠ y17 := bne_iff_ne.1 hc27
            clear hc27
            by_cases hf : y7.fst = y17.fst
            · have hs : ¬ y7.snd = y17.snd := fun h => hne (Prod.ext hf h)
              go_quiet (fail)
              generalize hW : World.drewN W5 _ = W28
              have hd : Dr W5 W28 := ⟨_, hW.symm⟩
              clear hW
              try clear f12 f13 f14 f15 f22 f23 f24 f25
              replace HD := Lib.hid (HD.out.trans hd); clear hd
              obtain rfl := Option.some.inj HL1.out
              have hm := HM.out; try dsimp only at hm
              replace HM := Lib.hid hm; clear hm
              obtain rfl := Option.some.inj HM.out
              go_wp2_with fail
              go_ret
              exact ⟨rfl, HD.out⟩
            · go_quiet (fail)
              generalize hW : World.drewN W5 _ = W28
              have hd : Dr W5 W28 := ⟨_, hW.symm⟩
              clear hW
              try clear f12 f13 f14 f15 f22 f23 f24 f25
              replace HD := Lib.hid (HD.out.trans hd); clear hd
              obtain rfl := Option.some.inj HL1.out
              have hm := HM.out; try dsimp only at hm
              replace HM := Lib.hid hm; clear hm
              obtain rfl := Option.some.inj HM.out
              go_wp2_with fail
              go_ret
              exact ⟨rfl, HD.out⟩
          · replace HL1 := Lib.hid (ifF (bF hc27) HL1.out)
            have he : y7 = y17 := by simpa using hc27
            have hf : y7.fst = y17.fst := by rw [he]
            have hs : y7.snd = y17.snd := by rw [he]
            clear he hc27
            go_quiet (fail)
            generalize hW : World.drewN W5 _ = W29
            have hd : Dr W5 W29 := ⟨_, hW.symm⟩
            clear hW
            try clear f12 f13 f14 f15 f22 f23 f24 f25
            replace HD := Lib.hid (HD.out.trans hd); clear hd
            go_wp2_with fail
            go_roundg g1
            case measure => omega
            case rel => exact ⟨(wrap64 (x3 + 1)), rfl, HD, HL1⟩
        · replace HL1 := Lib.hid (ifF hc6 HL1.out)
          have hc6d := decide_eq_false hc6
          obtain rfl := Option.some.inj HL1.out
          have hm := HM.out; try dsimp only at hm
          replace HM := Lib.hid hm; clear hm
          obtain rfl := Option.some.inj HM.out
          go_wp2_with fail
          go_ret
          exact ⟨(by first | rfl | (refine congrArg (fun b => Ending.returned (Value.bool b)) ?_; first | (exact decide_eq_true (by omega)) | (exact decide_eq_false (by omega)))), HD.out⟩
end Go.Proofs.YtecllcpjjllogaaDoor
