import Derived.Test.YtccdnokddkpmgaaDoorBSt
set_option linter.all false
set_option maxRecDepth 100000
namespace Go.Proofs.YtccdnokddkpmgaaDoor
open Go.RowKit
theorem litB_ok (W : World) (l : List Bool) (hl : l.length ≤ maxLen) : (owB (.slice (some ⟨W.heap.size, 0, none⟩) l.length l.length) l).ok (W.alloc (.cells (boolV l).toArray 4)) W.heap.size := by
  have := own_lit (w := W) (base := W.heap.size) (n := l.length) (e := 4) (boolV l).toArray 1 (by simp [boolV]) (Nat.le_refl _) hl
  simpa [Ow.ok, owB, boolV] using this
def SE_Bools_L1 (F : Nat) (v0 : List Bool) (v1 : List Bool) : Nat → (Int) → Option ((Int) ⊕ (Bool))
  | 0, _ => none
  | g+1, v3 => if v3 < ((v0).length : Int) then ((ix v0 v3).bind fun y1 => (ix v1 v3).bind fun y2 => if (y1 != y2) = true then some (.inr (false)) else SE_Bools_L1 F v0 v1 g ((wrap64 (v3 + 1)))) else some (.inl (v3))
theorem SE_Bools_L1_0 (F : Nat) (v0 : List Bool) (v1 : List Bool) (v3 : Int) : SE_Bools_L1 F v0 v1 0 v3 = none := by rw [SE_Bools_L1]
theorem SE_Bools_L1_s (F g : Nat) (v0 : List Bool) (v1 : List Bool) (v3 : Int) : SE_Bools_L1 F v0 v1 (g+1) v3 = (if v3 < ((v0).length : Int) then ((ix v0 v3).bind fun y1 => (ix v1 v3).bind fun y2 => if (y1 != y2) = true then some (.inr (false)) else SE_Bools_L1 F v0 v1 g ((wrap64 (v3 + 1)))) else some (.inl (v3))) := by rw [SE_Bools_L1]
def SE_Bools (F : Nat) (v0 : List Bool) (v1 : List Bool) : Option (Bool) := (if (((v0).length : Int) != ((v1).length : Int)) = true then some (false) else (SE_Bools_L1 F (v0) (v1) F (0)).bind fun o3 => match o3 with | .inr r => some (r) | .inl o3 => some (true))
set_option maxRecDepth 100000 in
set_option maxHeartbeats 4000000 in
theorem SE_Bools_ok {F : Nat} {v0 : List Bool} {A0 : Option Addr} {v1 : List Bool} {A1 : Option Addr} {r : Bool} (w : World) (cap0 : Nat) (hr0 : ReadsB w w.heap.size A0 v0) (cap1 : Nat) (hr1 : ReadsB w w.heap.size A1 v1) (h : SE_Bools F v0 v1 = some r) :
    Calls Tryd.prog 9 #[.slice A0 v0.length cap0, .slice A1 v1.length cap1] w fun e w' => e = .returned (.bool r) ∧ Dr w w' := by
  have HR0 := Lib.hid hr0; clear hr0
  have HR1 := Lib.hid hr1; clear hr1
  have HD := Lib.hid (Dr.refl w)
  unfold SE_Bools at h
  have HM := Lib.hid h; clear h
  go_enter Tryd.func9, Tryd.ntmps9
  rcases Bool.eq_false_or_eq_true (((v0).length : Int) != ((v1).length : Int)) with hc1 | hc1
  · replace HM := Lib.hid (ifT hc1 HM.out)
    have HK2 := Lib.hid hc1
    obtain rfl := Option.some.inj HM.out
    go_wp2_with fail
    go_ret
    exact ⟨(by first | rfl | (refine congrArg (fun b => Ending.returned (Value.bool b)) ?_; first | (exact decide_eq_true (by omega)) | (exact decide_eq_false (by omega)) | (have q := hc1; rw [bne_iff_ne] at q ⊢; omega) | (have q := hc1; rw [bne_eq_false_iff_eq] at q ⊢; omega) | (have q := hc1; rw [beq_iff_eq] at q ⊢; omega) | (have q := hc1; rw [beq_eq_false_iff_ne] at q ⊢; omega))), HD.out⟩
  · replace HM := Lib.hid (ifF (bF hc1) HM.out)
    have HK2 := Lib.hid hc1
    go_wp2_with fail
    try clear hc1
    obtain ⟨o3, ho, hm⟩ := obind HM.out
    replace HM := Lib.hid hm; have HL1 := Lib.hid ho; clear hm ho
    go_loopg [5] F (fun gg ux5 wr => ∃ (x4 : Int), ux5 = .int .i64 x4 ∧ Hid (Dr w wr) ∧ Hid (SE_Bools_L1 F (v0) (v1) gg x4 = some o3))
    case atStart => exact ⟨0, rfl, HD, HL1⟩
    case round =>
      obtain ⟨x4, rfl, HD, HL1⟩ := hrel
      rename World => W6
      cases gk with
      | zero => exact absurd ((SE_Bools_L1_0 ..).symm.trans HL1.out) (by intro h; cases h)
      | succ g1 =>
        replace HL1 := Lib.hid ((SE_Bools_L1_s ..).symm.trans HL1.out)
        by_cases hc7 : x4 < ((v0).length : Int)
        · replace HL1 := Lib.hid (ifT hc7 HL1.out)
          have HK8 := Lib.hid hc7
          try go_wp2_with fail
          try clear hc7
          obtain ⟨y9, hy10, hm⟩ := obind HL1.out
          replace HL1 := Lib.hid hm; clear hm
          obtain ⟨b11, o12, ea13, _, f14, f15, f16⟩ := ReadsB.ix (rdB (HD.out.below _) HR0.out) hy10
          cases ea13
          try simp only [Nat.zero_add, Nat.add_zero, Int.toNat_natCast, Int.toNat_zero, Int.toNat_one] at f16
          have HY18 := Lib.hid hy10; clear hy10
          obtain ⟨y19, hy20, hm⟩ := obind HL1.out
          replace HL1 := Lib.hid hm; clear hm
          obtain ⟨b21, o22, ea23, _, f24, f25, f26⟩ := ReadsB.ix (rdB (HD.out.below _) HR1.out) hy20
          cases ea23
          try simp only [Nat.zero_add, Nat.add_zero, Int.toNat_natCast, Int.toNat_zero, Int.toNat_one] at f26
          have HY28 := Lib.hid hy20; clear hy20
          cases y9
          · cases y19
            · replace HL1 := Lib.hid (ifF (by decide) HL1.out)
              go_quiet (fail)
              generalize hW : World.drewN W6 _ = W29
              have hd : Dr W6 W29 := ⟨_, hW.symm⟩
              clear hW
              try clear f14 f15 f16 f24 f25 f26
              replace HD := Lib.hid (HD.out.trans hd); clear hd
              go_wp2_with fail
              go_roundg g1
              case measure => omega
              case rel => exact ⟨(wrap64 (x4 + 1)), rfl, HD, HL1⟩
            · replace HL1 := Lib.hid (ifT (by decide) HL1.out)
              go_quiet (fail)
              generalize hW : World.drewN W6 _ = W30
              have hd : Dr W6 W30 := ⟨_, hW.symm⟩
              clear hW
              try clear f14 f15 f16 f24 f25 f26
              replace HD := Lib.hid (HD.out.trans hd); clear hd
              obtain rfl := Option.some.inj HL1.out
              have hm := HM.out; try dsimp only at hm
              replace HM := Lib.hid hm; clear hm
              obtain rfl := Option.some.inj HM.out
              go_wp2_with fail
              go_ret
              exact ⟨rfl, HD.out⟩
          · cases y19
            · replace HL1 := Lib.hid (ifT (by decide) HL1.out)
              go_quiet (fail)
              generalize hW : World.drewN W6 _ = W31
              have hd : Dr W6 W31 := ⟨_, hW.symm⟩
              clear hW
              try clear f14 f15 f16 f24 f25 f26
              replace HD := Lib.hid (HD.out.trans hd); clear hd
              obtain rfl := Option.some.inj HL1.out
              have hm := HM.out; try dsimp only at hm
              replace HM := Lib.hid hm; clear hm
              obtain rfl := Option.some.inj HM.out
              go_wp2_with fail
              go_ret
              exact ⟨rfl, HD.out⟩
            · replace HL1 := Lib.hid (ifF (by decide) HL1.out)
              go_quiet (fail)
              generalize hW : World.drewN W6 _ = W32
              have hd : Dr W6 W32 := ⟨_, hW.symm⟩
              clear hW
              try clear f14 f15 f16 f24 f25 f26
              replace HD := Lib.hid (HD.out.trans hd); clear hd
              go_wp2_with fail
              go_roundg g1
              case measure => omega
              case rel => exact ⟨(wrap64 (x4 + 1)), rfl, HD, HL1⟩
        · replace HL1 := Lib.hid (ifF hc7 HL1.out)
          have hc7d := decide_eq_false hc7
          have HK8 := Lib.hid hc7
          obtain rfl := Option.some.inj HL1.out
          have hm := HM.out; try dsimp only at hm
          replace HM := Lib.hid hm; clear hm
          obtain rfl := Option.some.inj HM.out
          go_wp2_with fail
          go_ret
          exact ⟨(by first | rfl | (refine congrArg (fun b => Ending.returned (Value.bool b)) ?_; first | (exact decide_eq_true (by omega)) | (exact decide_eq_false (by omega)) | (have q := hc7; rw [bne_iff_ne] at q ⊢; omega) | (have q := hc7; rw [bne_eq_false_iff_eq] at q ⊢; omega) | (have q := hc7; rw [beq_iff_eq] at q ⊢; omega) | (have q := hc7; rw [beq_eq_false_iff_ne] at q ⊢; omega) | (have q := hc7d; rw [bne_iff_ne] at q ⊢; omega) | (have q := hc7d; rw [bne_eq_false_iff_eq] at q ⊢; omega) | (have q := hc7d; rw [beq_iff_eq] at q ⊢; omega) | (have q := hc7d; rw [beq_eq_false_iff_ne] at q ⊢; omega))), HD.out⟩
end Go.Proofs.YtccdnokddkpmgaaDoor
