import Derived.Test.YtnfijblmigjlhaaDoorBA
import Derived.Test.YtnfijblmigjlhaaDoorGR
set_option linter.all false
set_option maxRecDepth 100000
namespace Go.Proofs.YtnfijblmigjlhaaDoor
open Go.RowKit
def R3_Bruijn_L1 (F : Nat) (v0 : Int) (v1 : Int) : Nat → (Int) → (Int) → Option (Int × Int)
  | 0, _, _ => none
  | g+1, v3, v4 => if v4 < v1 then R3_Bruijn_L1 F v0 v1 g ((wrap64 (v3 * v0))) ((wrap64 (v4 + 1))) else some (v3, v4)
theorem R3_Bruijn_L1_0 (F : Nat) (v0 : Int) (v1 : Int) (v3 : Int) (v4 : Int) : R3_Bruijn_L1 F v0 v1 0 v3 v4 = none := by rw [R3_Bruijn_L1]
theorem R3_Bruijn_L1_s (F g : Nat) (v0 : Int) (v1 : Int) (v3 : Int) (v4 : Int) : R3_Bruijn_L1 F v0 v1 (g+1) v3 v4 = (if v4 < v1 then R3_Bruijn_L1 F v0 v1 g ((wrap64 (v3 * v0))) ((wrap64 (v4 + 1))) else some (v3, v4)) := by rw [R3_Bruijn_L1]
def R3_Bruijn (F : Nat) (v0 : Int) (v1 : Int) : Option (Int) := (((R3_in F (v0) (1) (3)).bind fun y2 => if y2 = true then (R3_in F (v1) (1) (6)).bind fun y3 => if y3 = true then some false else some true else some true).bind fun b1 => if b1 = true then some (1) else (R3_Bruijn_L1 F (v0) (v1) F (1) (0)).bind fun o4 => (if 100 < o4.1 then some (4) else some (0)))
set_option maxRecDepth 100000 in
set_option maxHeartbeats 4000000 in
theorem R3_Bruijn_ok {F : Nat} {v0 : Int} {v1 : Int} {r : Int} (w : World)  (h : R3_Bruijn F v0 v1 = some r) :
    Calls Tryd.prog 4 #[.int .i64 v0, .int .i64 v1] w fun e w' => e = .returned (.int .i64 r) ∧ w = w' := by
  unfold R3_Bruijn at h
  have HM := Lib.hid h; clear h
  go_enter Tryd.func4, Tryd.ntmps4
  go_upto_region 1 with (fail)
  obtain ⟨b1, hb, hm⟩ := obind HM.out
  replace HM := Lib.hid hm; have HB2 := Lib.hid hb; clear hm hb
  go_cut [14] (fun uq wr => uq = .bool b1 ∧ w = wr)
  case first =>
    obtain ⟨y6, hy4, hm⟩ := obind HB2.out
    replace HB2 := Lib.hid hm; clear hm
    have HC5 := R3_in_ok w  hy4
    clear hy4
    replace HC5 := Lib.hid HC5
    cases y6
    · replace HB2 := Lib.hid (ifF Bool.false_ne_true HB2.out)
      cases Option.some.inj HB2.out
      go_wp2_with fail
      refine HC5.out.mono ?_; rintro e w' ⟨rfl, rfl⟩
      try go_wp2_with fail
      go_meet
      case rel => exact ⟨rfl, rfl⟩
    · replace HB2 := Lib.hid (ifT rfl HB2.out)
      obtain ⟨y9, hy7, hm⟩ := obind HB2.out
      replace HB2 := Lib.hid hm; clear hm
      have HC8 := R3_in_ok w  hy7
      clear hy7
      replace HC8 := Lib.hid HC8
      cases y9
      · replace HB2 := Lib.hid (ifF Bool.false_ne_true HB2.out)
        cases Option.some.inj HB2.out
        go_wp2_with fail
        refine HC5.out.mono ?_; rintro e w' ⟨rfl, rfl⟩
        go_wp2_with fail
        refine HC8.out.mono ?_; rintro e w' ⟨rfl, rfl⟩
        try go_wp2_with fail
        go_meet
        case rel => exact ⟨rfl, rfl⟩
      · replace HB2 := Lib.hid (ifT rfl HB2.out)
        cases Option.some.inj HB2.out
        go_wp2_with fail
        refine HC5.out.mono ?_; rintro e w' ⟨rfl, rfl⟩
        go_wp2_with fail
        refine HC8.out.mono ?_; rintro e w' ⟨rfl, rfl⟩
        try go_wp2_with fail
        go_meet
        case rel => exact ⟨rfl, rfl⟩
  case rest =>
    as_aux_lemma =>
      obtain ⟨rfl, rfl⟩ := hcut
      cases b1
      · replace HM := Lib.hid (ifF Bool.false_ne_true HM.out)
        go_wp2_with fail
        obtain ⟨o10, ho, hm⟩ := obind HM.out
        replace HM := Lib.hid hm; have HL1 := Lib.hid ho; clear hm ho
        go_loopg [5, 6] F (fun gg ux13 ux14 wr => ∃ (x11 : Int) (x12 : Int), ux13 = .int .i64 x11 ∧ ux14 = .int .i64 x12 ∧ w = wr ∧ Hid (R3_Bruijn_L1 F (v0) (v1) gg x11 x12 = some o10))
        case atStart => exact ⟨1, 0, rfl, rfl, rfl, HL1⟩
        case round =>
          obtain ⟨x11, x12, rfl, rfl, rfl, HL1⟩ := hrel
          cases gk with
          | zero => exact absurd ((R3_Bruijn_L1_0 ..).symm.trans HL1.out) (by intro h; cases h)
          | succ g1 =>
            replace HL1 := Lib.hid ((R3_Bruijn_L1_s ..).symm.trans HL1.out)
            by_cases hc15 : x12 < v1
            · replace HL1 := Lib.hid (ifT hc15 HL1.out)
              have HK16 := Lib.hid hc15
              go_wp2_with fail
              try clear hc15
              go_roundg g1
              case measure => omega
              case rel => exact ⟨(wrap64 (x11 * v0)), (wrap64 (x12 + 1)), rfl, rfl, rfl, HL1⟩
            · replace HL1 := Lib.hid (ifF hc15 HL1.out)
              have hc15d := decide_eq_false hc15
              have HK16 := Lib.hid hc15
              obtain rfl := Option.some.inj HL1.out
              have hm := HM.out; try dsimp only at hm
              replace HM := Lib.hid hm; clear hm
              by_cases hc17 : 100 < x11
              · replace HM := Lib.hid (ifT hc17 HM.out)
                have HK18 := Lib.hid hc17
                obtain rfl := Option.some.inj HM.out
                go_wp2_with fail
                try clear hc15 hc15d hc17
                go_ret
                exact ⟨rfl, rfl⟩
              · replace HM := Lib.hid (ifF hc17 HM.out)
                have hc17d := decide_eq_false hc17
                have HK18 := Lib.hid hc17
                obtain rfl := Option.some.inj HM.out
                go_wp2_with fail
                try clear hc15 hc15d hc17 hc17d
                go_ret
                exact ⟨rfl, rfl⟩
      · replace HM := Lib.hid (ifT rfl HM.out)
        obtain rfl := Option.some.inj HM.out
        go_wp2_with fail
        go_ret
        exact ⟨rfl, rfl⟩
def R3_round_L1 (F : Nat) (v0 : List Int) : Nat → (Int) → Option ((Int) ⊕ (Bool))
  | 0, _ => none
  | g+1, v2 => if v2 < ((v0).length : Int) then (dr v0 v2).bind fun y2 => (appL [] y2).bind fun y1 => (tk v0 v2).bind fun y4 => (appL y1 y4).bind fun y3 => ((R3_Ahead F (v0) (y3)).bind fun y5 => if y5 = true then R3_round_L1 F v0 g ((wrap64 (v2 + 1))) else some (.inr (false))) else some (.inl (v2))
theorem R3_round_L1_0 (F : Nat) (v0 : List Int) (v2 : Int) : R3_round_L1 F v0 0 v2 = none := by rw [R3_round_L1]
theorem R3_round_L1_s (F g : Nat) (v0 : List Int) (v2 : Int) : R3_round_L1 F v0 (g+1) v2 = (if v2 < ((v0).length : Int) then (dr v0 v2).bind fun y2 => (appL [] y2).bind fun y1 => (tk v0 v2).bind fun y4 => (appL y1 y4).bind fun y3 => ((R3_Ahead F (v0) (y3)).bind fun y5 => if y5 = true then R3_round_L1 F v0 g ((wrap64 (v2 + 1))) else some (.inr (false))) else some (.inl (v2))) := by rw [R3_round_L1]
def R3_round (F : Nat) (v0 : List Int) : Option (Bool) := (R3_round_L1 F (v0) F (1)).bind fun o6 => match o6 with | .inr r => some (r) | .inl o6 => some (true)
set_option maxRecDepth 100000 in
set_option maxHeartbeats 4000000 in
theorem R3_round_ok {F : Nat} {v0 : List Int} {A0 : Option Addr} {r : Bool} (w : World) (cap0 : Nat) (hr0 : ReadsI w w.heap.size A0 v0) (hcap0 : v0.length ≤ cap0) (h : R3_round F v0 = some r) :
    Calls Tryd.prog 21 #[.slice A0 v0.length cap0] w fun e w' => e = .returned (.bool r) ∧ Below w.heap.size w w' := by
  have HR0 := Lib.hid hr0; clear hr0
  have HCAP0 := Lib.hid hcap0; clear hcap0
  have HD := Lib.hid (Below.refl w.heap.size w)
  have HOA := Lib.hid (HP.nil (W := w) (B := w.heap.size))
  unfold R3_round at h
  have HM := Lib.hid h; clear h
  go_enter Tryd.func21, Tryd.ntmps21
  go_wp2_with fail
  obtain ⟨o1, ho, hm⟩ := obind HM.out
  replace HM := Lib.hid hm; have HL1 := Lib.hid ho; clear hm ho
  go_loopg [3] F (fun gg ux3 wr => ∃ (x2 : Int), ux3 = .int .i64 x2 ∧ Hid (Below w.heap.size w wr) ∧ Hid (HP wr w.heap.size []) ∧ Hid (R3_round_L1 F (v0) gg x2 = some o1))
  case atStart => exact ⟨1, rfl, HD, HOA, HL1⟩
  case round =>
    obtain ⟨x2, rfl, HD, HOA, HL1⟩ := hrel
    rename World => W4
    cases gk with
    | zero => exact absurd ((R3_round_L1_0 ..).symm.trans HL1.out) (by intro h; cases h)
    | succ g1 =>
      replace HL1 := Lib.hid ((R3_round_L1_s ..).symm.trans HL1.out)
      by_cases hc5 : x2 < ((v0).length : Int)
      · replace HL1 := Lib.hid (ifT hc5 HL1.out)
        have HK6 := Lib.hid hc5
        replace HOA := Lib.hid (show HP _ _ (.fl (owI (.slice none 0 0) ([])) :: _) from HOA.out.pushNil _ _)
        obtain ⟨y8, hy9, hm⟩ := obind HL1.out
        replace HL1 := Lib.hid hm; clear hm
        obtain ⟨f10, hy9⟩ := dr_some hy9; subst hy9
        obtain ⟨A11, n16, cap12, hsl13, hrs, hcs, hns⟩ := ReadsI.sliceD (rdI HD.out HR0.out) HCAP0.out f10
        have HR14 := Lib.hid hrs; have HCAP15 := Lib.hid hcs; have HN17 := Lib.hid hns; clear hrs hcs hns f10
        obtain ⟨y18, hy19, hm⟩ := obind HL1.out
        replace HL1 := Lib.hid hm; clear hm
        obtain ⟨f20, hy19⟩ := appL_some hy19; subst hy19
        have HF23 := Lib.hid f20; clear f20
        go_upto_region 6 with (at_builtin; refine hp_appIsn _ (.tmp 11) (.tmp 14) 22 Tryd.underlying22 rfl rfl (L1 := []) HOA.out HR14.out HN17.out rfl rfl HF23.out HD.out.size ?_; intro V21 W22 hoa hd)
        try clear hc5 hsl13
        replace HOA := Lib.hid (show HP W22 w.heap.size [.fl (owI V21 (([] ++ (List.drop (Int.toNat x2) v0))))] from hoa); clear hoa
        replace HD := Lib.hid (HD.out.trans hd); clear hd
        obtain ⟨y24, hy25, hm⟩ := obind HL1.out
        replace HL1 := Lib.hid hm; clear hm
        obtain ⟨f26, hy25⟩ := tk_some hy25; subst hy25
        obtain ⟨A27, n32, cap28, hsl29, hrs, hcs, hns⟩ := ReadsI.sliceU (rdI HD.out HR0.out) HCAP0.out f26
        have HR30 := Lib.hid hrs; have HCAP31 := Lib.hid hcs; have HN33 := Lib.hid hns; clear hrs hcs hns f26
        obtain ⟨y34, hy35, hm⟩ := obind HL1.out
        replace HL1 := Lib.hid hm; clear hm
        obtain ⟨f36, hy35⟩ := appL_some hy35; subst hy35
        have HF39 := Lib.hid f36; clear f36
        go_upto_region 7 with (at_builtin; refine hp_appIsn _ (.tmp 16) (.tmp 19) 22 Tryd.underlying22 rfl rfl (L1 := []) HOA.out HR30.out HN33.out rfl rfl HF39.out HD.out.size ?_; intro V37 W38 hoa hd)
        try clear hsl29
        replace HOA := Lib.hid (show HP W38 w.heap.size [.fl (owI V37 ((([] ++ (List.drop (Int.toNat x2) v0)) ++ (List.take (Int.toNat x2) v0))))] from hoa); clear hoa
        replace HD := Lib.hid (HD.out.trans hd); clear hd
        obtain ⟨y42, hy40, hm⟩ := obind HL1.out
        replace HL1 := Lib.hid hm; clear hm
        obtain ⟨A43, cap44, he, _⟩ := HP.open_I HOA.out (List.Mem.head _)
        obtain ⟨n45, hn3⟩ : ∃ n, List.length (([] ++ (List.drop (Int.toNat x2) v0)) ++ (List.take (Int.toNat x2) v0)) = n := ⟨_, rfl⟩
        rw [hn3] at he; subst he; clear hn3
        have HC41 := R3_Ahead_ok W38 cap0 (rdI HD.out HR0.out) cap44 (HP.rd_I HOA.out (List.Mem.head _)) hy40
        clear hy40
        try rw [← HP.len_I HOA.out (List.Mem.head _)] at HC41
        replace HC41 := Lib.hid HC41
        go_wp2_with fail
        refine HC41.out.mono ?_; rintro e W46 ⟨rfl, hd⟩
        replace HOA := Lib.hid (HOA.out.below (hd.below _))
        replace HD := Lib.hid (HD.out.trans ((hd.below _).mono HD.out.size))
        clear hd
        cases y42
        · replace HL1 := Lib.hid (ifF Bool.false_ne_true HL1.out)
          obtain rfl := Option.some.inj HL1.out
          have hm := HM.out; try dsimp only at hm
          replace HM := Lib.hid hm; clear hm
          obtain rfl := Option.some.inj HM.out
          go_wp2_with fail
          go_ret
          exact ⟨rfl, HD.out⟩
        · replace HL1 := Lib.hid (ifT rfl HL1.out)
          go_wp2_with fail
          replace HOA := Lib.hid (HOA.out.sub (.cons _ .slnil))
          go_roundg g1
          case measure => omega
          case rel => exact ⟨(wrap64 (x2 + 1)), rfl, HD, HOA, HL1⟩
      · replace HL1 := Lib.hid (ifF hc5 HL1.out)
        have hc5d := decide_eq_false hc5
        have HK6 := Lib.hid hc5
        obtain rfl := Option.some.inj HL1.out
        have hm := HM.out; try dsimp only at hm
        replace HM := Lib.hid hm; clear hm
        obtain rfl := Option.some.inj HM.out
        go_wp2_with fail
        go_ret
        exact ⟨(by first | rfl | (refine congrArg (fun b => Ending.returned (Value.bool b)) ?_; first | (exact decide_eq_true (by omega)) | (exact decide_eq_false (by omega)))), HD.out⟩
def R3_words_L1 (F : Nat) (rec : (Int) → (Int) → (List Int) → Option (List Int)) (v0 : Int) (v1 : Int) (v2 : List Int) : Nat → (List Int) → (Int) → Option (List Int × Int)
  | 0, _, _ => none
  | g+1, v4, v5 => if v5 < v0 then (R1_Behind F (v2) (v5)).bind fun y8 => (rec (v0) (v1) (y8)).bind fun y9 => (appL v4 y9).bind fun y7 => R3_words_L1 F rec v0 v1 v2 g (y7) ((wrap64 (v5 + 1))) else some (v4, v5)
theorem R3_words_L1_0 (F : Nat) (rec : (Int) → (Int) → (List Int) → Option (List Int)) (v0 : Int) (v1 : Int) (v2 : List Int) (v4 : List Int) (v5 : Int) : R3_words_L1 F rec v0 v1 v2 0 v4 v5 = none := by rw [R3_words_L1]
theorem R3_words_L1_s (F g : Nat) (rec : (Int) → (Int) → (List Int) → Option (List Int)) (v0 : Int) (v1 : Int) (v2 : List Int) (v4 : List Int) (v5 : Int) : R3_words_L1 F rec v0 v1 v2 (g+1) v4 v5 = (if v5 < v0 then (R1_Behind F (v2) (v5)).bind fun y8 => (rec (v0) (v1) (y8)).bind fun y9 => (appL v4 y9).bind fun y7 => R3_words_L1 F rec v0 v1 v2 g (y7) ((wrap64 (v5 + 1))) else some (v4, v5)) := by rw [R3_words_L1]
def R3_words (F : Nat) : Nat → (Int) → (Int) → (List Int) → Option (List Int)
  | 0, _, _, _ => none
  | d+1, v0, v1, v2 => (((if 0 < ((v2).length : Int) then (md v1 ((v2).length : Int)).bind fun y4 => if (y4 == 0) = true then some true else some false else some false).bind fun b3 => if b3 = true then (R3_round F (v2)).bind fun y5 => if y5 = true then some true else some false else some false).bind fun b2 => if b2 = true then (appL [] v2).bind fun y6 => some (y6) else some ([])).bind fun o1 => (if (((v2).length : Int) == v1) = true then some (o1) else (R3_words_L1 F (R3_words F d) (v0) (v1) (v2) F (o1) (0)).bind fun o10 => some (o10.1))
theorem R3_words_s (F d : Nat) (v0 : Int) (v1 : Int) (v2 : List Int) : R3_words F (d+1) v0 v1 v2 = ((((if 0 < ((v2).length : Int) then (md v1 ((v2).length : Int)).bind fun y4 => if (y4 == 0) = true then some true else some false else some false).bind fun b3 => if b3 = true then (R3_round F (v2)).bind fun y5 => if y5 = true then some true else some false else some false).bind fun b2 => if b2 = true then (appL [] v2).bind fun y6 => some (y6) else some ([])).bind fun o1 => (if (((v2).length : Int) == v1) = true then some (o1) else (R3_words_L1 F (R3_words F d) (v0) (v1) (v2) F (o1) (0)).bind fun o10 => some (o10.1))) := by rw [R3_words]
theorem R3_words_0 (F : Nat) (v0 : Int) (v1 : Int) (v2 : List Int) : R3_words F 0 v0 v1 v2 = none := by rw [R3_words]
set_option maxRecDepth 100000 in
set_option maxHeartbeats 4000000 in
theorem R3_words_ok {F : Nat} : ∀ (d : Nat) {v0 : Int} {v1 : Int} {v2 : List Int} {A2 : Option Addr} {r : List Int} (w : World) (cap2 : Nat) (hr2 : ReadsI w w.heap.size A2 v2) (hcap2 : v2.length ≤ cap2) (h : R3_words F d v0 v1 v2 = some r),
    Calls Tryd.prog 16 #[.int .i64 v0, .int .i64 v1, .slice A2 v2.length cap2] w (PostG (fun v => v) (fun v => owI v r) w.heap.size w) := by
  intro d
  induction d with
  | zero =>
    intro v0 v1 v2 A2 r w cap2 hr2 hcap2 h
    rw [R3_words_0] at h; cases h
  | succ d ih =>
    intro v0 v1 v2 A2 r w cap2 hr2 hcap2 h
    have HR2 := Lib.hid hr2; clear hr2
    have HCAP2 := Lib.hid hcap2; clear hcap2
    have HD := Lib.hid (Below.refl w.heap.size w)
    have HOA := Lib.hid (HP.nil (W := w) (B := w.heap.size))
    rw [R3_words_s] at h
    have HM := Lib.hid h; clear h
    go_enter Tryd.func16, Tryd.ntmps16
    replace HOA := Lib.hid (show HP _ _ (.fl (owI (.slice none 0 0) ([])) :: _) from HOA.out.pushNil _ _)
    go_upto_region 2 with (fail)
    obtain ⟨x2, ho, hm⟩ := obind HM.out
    replace HM := Lib.hid hm; have HJ3 := Lib.hid ho; clear hm ho
    obtain ⟨b4, hb, hm⟩ := obind HJ3.out
    replace HJ3 := Lib.hid hm; have HB5 := Lib.hid hb; clear hm hb
    go_cut [22] (fun uq wr => uq = .bool b4 ∧ Hid (Below w.heap.size w wr))
    case first =>
      have HWC6 := Lib.hid (Below.refl w.heap.size w)
      obtain ⟨b7, hb, hm⟩ := obind HB5.out
      replace HB5 := Lib.hid hm; have HB8 := Lib.hid hb; clear hm hb
      by_cases hc9 : 0 < ((v2).length : Int)
      · replace HB8 := Lib.hid (ifT hc9 HB8.out)
        have HK10 := Lib.hid hc9
        have hc9n := hc9; try norm_cast at hc9n
        obtain ⟨y11, hy12, hm⟩ := obind HB8.out
        replace HB8 := Lib.hid hm; clear hm
        obtain ⟨f13, hy12⟩ := md_some hy12; subst hy12
        rcases Bool.eq_false_or_eq_true (((v1 : Int).tmod ((v2).length : Int)) == 0) with hc14 | hc14
        · replace HB8 := Lib.hid (ifT hc14 HB8.out)
          have HK15 := Lib.hid hc14
          obtain rfl := Option.some.inj HB8.out
          replace HB5 := Lib.hid (ifT (by first | rfl | trivial) HB5.out)
          obtain ⟨y18, hy16, hm⟩ := obind HB5.out
          replace HB5 := Lib.hid hm; clear hm
          have HC17 := R3_round_ok w cap2 (rdI HD.out HR2.out) HCAP2.out hy16
          clear hy16
          replace HC17 := Lib.hid HC17
          go_wp2_with fail
          refine HC17.out.mono ?_; rintro e W19 ⟨rfl, hd⟩
          try clear hc9 hc9n f13 hc14
          replace HOA := Lib.hid (HOA.out.below hd)
          replace HD := Lib.hid (HD.out.trans (hd.mono HD.out.size))
          replace HWC6 := Lib.hid (HWC6.out.trans (hd.mono HWC6.out.size))
          clear hd
          cases y18
          · replace HB5 := Lib.hid (ifF Bool.false_ne_true HB5.out)
            cases Option.some.inj HB5.out
            try go_wp2_with fail
            go_meet
            case rel => exact ⟨rfl, HWC6⟩
          · replace HB5 := Lib.hid (ifT rfl HB5.out)
            cases Option.some.inj HB5.out
            try go_wp2_with fail
            go_meet
            case rel => exact ⟨rfl, HWC6⟩
        · replace HB8 := Lib.hid (ifF (bF hc14) HB8.out)
          have HK15 := Lib.hid hc14
          obtain rfl := Option.some.inj HB8.out
          replace HB5 := Lib.hid (ifF (by first | exact Bool.false_ne_true | exact not_false) HB5.out)
          cases Option.some.inj HB5.out
          try go_wp2_with fail
          go_meet
          case rel => exact ⟨rfl, HWC6⟩
      · replace HB8 := Lib.hid (ifF hc9 HB8.out)
        have hc9d := decide_eq_false hc9
        have HK10 := Lib.hid hc9
        have hc9n := hc9; try norm_cast at hc9n
        obtain rfl := Option.some.inj HB8.out
        replace HB5 := Lib.hid (ifF (by first | exact Bool.false_ne_true | exact not_false) HB5.out)
        cases Option.some.inj HB5.out
        try go_wp2_with fail
        go_meet
        case rel => exact ⟨rfl, HWC6⟩
    case rest =>
      as_aux_lemma =>
        obtain ⟨rfl, HWC6⟩ := hcut
        rename World => W20
        have hd := HWC6.out
        replace HOA := Lib.hid (HOA.out.below hd)
        replace HD := Lib.hid (HD.out.trans (hd.mono HD.out.size))
        clear hd
        go_upto_if 22 with (fail)
        go_cut [7] (fun q22 wr => ∃ (V21 : Value), V21 = q22 ∧ Hid (Below w.heap.size w wr) ∧ Hid (HP wr w.heap.size [.fl (owI V21 (x2))]))
        case first =>
          cases b4
          · replace HJ3 := Lib.hid (ifF Bool.false_ne_true HJ3.out)
            try go_wp2_with fail
            cases Option.some.inj HJ3.out
            go_meet
            case rel => exact ⟨(.slice none 0 0), rfl, HD, HOA⟩
          · replace HJ3 := Lib.hid (ifT rfl HJ3.out)
            obtain ⟨y24, hy25, hm⟩ := obind HJ3.out
            replace HJ3 := Lib.hid hm; clear hm
            obtain ⟨f26, hy25⟩ := appL_some hy25; subst hy25
            have HF29 := Lib.hid f26; clear f26
            go_wp2_with (at_builtin; refine hp_appIs _ (.tmp 23) (.tmp 24) 22 Tryd.underlying22 rfl rfl (L1 := []) HOA.out (rdI HD.out HR2.out) rfl rfl HF29.out HD.out.size ?_; intro V27 W28 hoa hd)
            replace HOA := Lib.hid (show HP W28 w.heap.size [.fl (owI V27 (([] ++ v2)))] from hoa); clear hoa
            replace HD := Lib.hid (HD.out.trans hd); clear hd
            try go_wp2_with fail
            cases Option.some.inj HJ3.out
            go_meet
            case rel => exact ⟨V27, rfl, HD, HOA⟩
        case rest =>
          as_aux_lemma =>
            obtain ⟨V21, rfl, HD, HOA⟩ := hcut
            rename World => W30
            rcases Bool.eq_false_or_eq_true (((v2).length : Int) == v1) with hc31 | hc31
            · replace HM := Lib.hid (ifT hc31 HM.out)
              have HK32 := Lib.hid hc31
              obtain rfl := Option.some.inj HM.out
              go_wp2_with fail
              try clear hc31
              go_ret
              exact ⟨_, rfl, HOA.out.get (List.Mem.head _), HD.out⟩
            · replace HM := Lib.hid (ifF (bF hc31) HM.out)
              have HK32 := Lib.hid hc31
              go_wp2_with fail
              try clear hc31
              obtain ⟨o33, ho, hm⟩ := obind HM.out
              replace HM := Lib.hid hm; have HL1 := Lib.hid ho; clear hm ho
              go_loopg [7, 8] F (fun gg ux36 ux37 wr => ∃ (x34 : List Int) (x35 : Int) (V38 : Value), V38 = ux36 ∧ ux37 = .int .i64 x35 ∧ Hid (Below w.heap.size w wr) ∧ Hid (HP wr w.heap.size [.fl (owI V38 (x34))]) ∧ Hid (R3_words_L1 F (R3_words F d) (v0) (v1) (v2) gg x34 x35 = some o33))
              case atStart => exact ⟨x2, 0, V21, rfl, rfl, HD, HOA, HL1⟩
              case round =>
                obtain ⟨x34, x35, V38, rfl, rfl, HD, HOA, HL1⟩ := hrel
                rename World => W39
                cases gk with
                | zero => exact absurd ((R3_words_L1_0 ..).symm.trans HL1.out) (by intro h; cases h)
                | succ g1 =>
                  replace HL1 := Lib.hid ((R3_words_L1_s ..).symm.trans HL1.out)
                  by_cases hc40 : x35 < v0
                  · replace HL1 := Lib.hid (ifT hc40 HL1.out)
                    have HK41 := Lib.hid hc40
                    obtain ⟨y44, hy42, hm⟩ := obind HL1.out
                    replace HL1 := Lib.hid hm; clear hm
                    have HC43 := R1_Behind_ok W39 cap2 (rdI HD.out HR2.out) hy42
                    clear hy42
                    replace HC43 := Lib.hid HC43
                    go_wp2_with fail
                    refine HC43.out.mono ?_; rintro e W45 ⟨V46, rfl, ho, hd⟩
                    try clear hc40
                    replace HOA := Lib.hid (HOA.out.call hd HD.out.size ho); clear ho
                    replace HD := Lib.hid (HD.out.trans (hd.mono HD.out.size))
                    clear hd
                    obtain ⟨y50, hy48, hm⟩ := obind HL1.out
                    replace HL1 := Lib.hid hm; clear hm
                    obtain ⟨A51, cap52, he, _⟩ := HP.open_I HOA.out (List.Mem.head _)
                    subst he
                    have HC49 := ih W45 cap52 (HP.rd_I HOA.out (List.Mem.head _)) (HP.cap_I HOA.out (List.Mem.head _)) hy48
                    clear hy48
                    replace HC49 := Lib.hid HC49
                    go_wp2_with fail
                    refine HC49.out.mono ?_; rintro e W53 ⟨V54, rfl, ho, hd⟩
                    replace HOA := Lib.hid (HOA.out.call hd HD.out.size ho); clear ho
                    replace HD := Lib.hid (HD.out.trans (hd.mono HD.out.size))
                    clear hd
                    obtain ⟨y56, hy57, hm⟩ := obind HL1.out
                    replace HL1 := Lib.hid hm; clear hm
                    obtain ⟨f58, hy57⟩ := appL_some hy57; subst hy57
                    have HF61 := Lib.hid f58; clear f58
                    obtain ⟨A62, cap63, he, _⟩ := HP.open_I HOA.out (List.Mem.head _)
                    subst he
                    go_upto_region 8 with (at_builtin; refine hp_appIs _ (.tmp 36) (.tmp 42) 22 Tryd.underlying22 rfl rfl (L1 := [_, _]) HOA.out (HP.rd_I HOA.out (List.Mem.head _)) rfl rfl HF61.out HD.out.size ?_; intro V59 W60 hoa hd)
                    replace HOA := Lib.hid (show HP W60 w.heap.size [.fl (owI (.slice A62 (y50).length cap63) (y50)), .fl (owI (.slice A51 (y44).length cap52) (y44)), .fl (owI V59 ((x34 ++ y50)))] from hoa); clear hoa
                    replace HD := Lib.hid (HD.out.trans hd); clear hd
                    go_wp2_with fail
                    replace HOA := Lib.hid (HOA.out.sub (.cons _ (.cons _ (.cons₂ _ .slnil))))
                    go_roundg g1
                    case measure => omega
                    case rel => exact ⟨(x34 ++ y50), (wrap64 (x35 + 1)), V59, rfl, rfl, HD, HOA, HL1⟩
                  · replace HL1 := Lib.hid (ifF hc40 HL1.out)
                    have hc40d := decide_eq_false hc40
                    have HK41 := Lib.hid hc40
                    obtain rfl := Option.some.inj HL1.out
                    have hm := HM.out; try dsimp only at hm
                    replace HM := Lib.hid hm; clear hm
                    obtain rfl := Option.some.inj HM.out
                    go_wp2_with fail
                    try clear hc40 hc40d
                    go_ret
                    exact ⟨_, rfl, HOA.out.get (List.Mem.head _), HD.out⟩
def R3_Ring (F : Nat) (v0 : Int) (v1 : Int) : Option (List Int) := (R3_words F F (v0) (v1) ([])).bind fun y1 => some (y1)
set_option maxRecDepth 100000 in
set_option maxHeartbeats 4000000 in
theorem R3_Ring_ok {F : Nat} {v0 : Int} {v1 : Int} {r : List Int} (w : World)  (h : R3_Ring F v0 v1 = some r) :
    Calls Tryd.prog 7 #[.int .i64 v0, .int .i64 v1] w (PostG (fun v => v) (fun v => owI v r) w.heap.size w) := by
  have HD := Lib.hid (Below.refl w.heap.size w)
  have HOA := Lib.hid (HP.nil (W := w) (B := w.heap.size))
  unfold R3_Ring at h
  have HM := Lib.hid h; clear h
  go_enter Tryd.func7, Tryd.ntmps7
  obtain ⟨y3, hy1, hm⟩ := obind HM.out
  replace HM := Lib.hid hm; clear hm
  have HC2 := R3_words_ok _ w 0 (readsI_nil (A := none)) (Nat.le_refl 0) hy1
  clear hy1
  replace HC2 := Lib.hid HC2
  go_wp2_with fail
  refine HC2.out.mono ?_; rintro e W4 ⟨V5, rfl, ho, hd⟩
  replace HOA := Lib.hid (HOA.out.call hd HD.out.size ho); clear ho
  replace HD := Lib.hid (HD.out.trans (hd.mono HD.out.size))
  clear hd
  obtain rfl := Option.some.inj HM.out
  go_wp2_with fail
  go_ret
  exact ⟨_, rfl, HOA.out.get (List.Mem.head _), HD.out⟩
end Go.Proofs.YtnfijblmigjlhaaDoor
