import Derived.Test.YthleccpdflggjaaDoorSW
namespace Go.Proofs.YthleccpdflggjaaDoor
open Go.RowKit Pl
theorem okP_says {n p : Int} (h : okP n p) : (gr n.toNat)[p.toNat]? = some (gAt p) ∧ (gr n.toNat)[(pl 9 p 0).toNat]? = some p ∧ (∀ j, j < (pl 9 p 0).toNat → ∃ u, (gr n.toNat)[j]? = some u ∧ u ≠ p) ∧ 0 ≤ pl 9 p 0 ∧ pl 9 p 0 ≤ 255 := by
  have hb := okP_back h
  obtain ⟨_, _, hb3, _⟩ := hb
  obtain ⟨a, b, rfl, rfl, ha, hb⟩ := okP_nat h
  have := all9_at says_all ha hb
  simp only [chkSays, firstAt, Bool.and_eq_true, beq_iff_eq, decide_eq_true_eq, List.all_eq_true] at this
  obtain ⟨⟨h1, h2, h3⟩, h4⟩ := this
  refine ⟨h1, h2, fun j hj => ?_, h4, ?_⟩
  · have hl : j < (gr ((a : Int)).toNat).length := by
      have := (List.getElem?_eq_some_iff.1 h2).1
      simp only [Int.toNat_natCast]; omega
    refine ⟨_, List.getElem?_eq_getElem hl, ?_⟩
    have := h3 ((gr a)[j]'(by simpa using hl)) (by rw [List.mem_take_iff_getElem]; exact ⟨j, by simp only [Int.toNat_natCast] at hl; omega, rfl⟩)
    simpa using this
  · have h5 := hb3.2.2.2
    have := (pow_nat a ha)
    simp only [Int.toNat_natCast] at h5
    omega
theorem gr_at {n p : Int} (h : okP n p) : (gr n.toNat)[p.toNat]? = some (gAt p) := (okP_says h).1
theorem map_at {l : List Int} {j : Nat} {u : Int} (h : l[j]? = some u) : (l.map (Value.int .i64))[j]? = some (.int .i64 u) := by simp [h]
set_option maxHeartbeats 1000000 in
theorem says_zero (p : Int) (w : World) (hg : TyCell w) (h : okP 0 p) :
    Calls Tryd.prog 3 #[.int .i64 0, .int .i64 p] w fun e w' => e = .returned (.bool true) ∧ Below w.heap.size w w' := by
  obtain rfl : p = 0 := by obtain ⟨_, _, h1, h2⟩ := h; simp at h2; omega
  have e1 : gAt 0 = 0 := by decide +kernel
  have e2 : pl 9 0 0 = 0 := by decide +kernel
  have H1 := fun w => at_yes 0 0 w h
  have H2 := fun w => place_yes 0 0 w h
  have H3 := fun w => Lib.hid (turn_no 0 0 w (by omega))
  rw [e1] at H1; rw [e2] at H2
  have H1' := fun w => Lib.hid (H1 w); have H2' := fun w => Lib.hid (H2 w); clear H1 H2 e1 e2 h
  have HG := Lib.hid hg; clear hg
  have HR : ∀ w : World, Hid (Calls Tryd.prog 7 #[.int .i64 0] w fun e w' => ∃ g cap, e = .returned (.slice (some ⟨g, 0, none⟩) 1 cap) ∧ w'.cell? ⟨g, 0, none⟩ = some (.int .i64 0) ∧ Below w.heap.size w w') := fun w =>
    (gray_any 0 w (by omega)).mono fun e w' ⟨v, he, ho, hb⟩ => by
      obtain ⟨g, cap, u, rfl, _, _, hu, hc⟩ := own_at ho (k := 0) (by decide)
      have : u = .int .i64 0 := by simpa [gr] using hu.symm
      subst this
      exact ⟨g, cap, he, hc, hb⟩
  have HP0 : ∀ w, Hid (Calls Tryd.prog 5 #[.int .i64 (min 0 8)] w fun e w' => e = .returned (.int .i64 1) ∧ w = w') := fun w => (power_any (min 0 8) w (by omega)).mono fun e w' ⟨h1, h2⟩ => ⟨h1.trans (ret_int (by decide)), h2⟩
  go_enter Tryd.func3, Tryd.ntmps3
  go_wp2_with fail
  refine (in_dec (t := true) (by decide) _).mono ?_; rintro e w' ⟨rfl, rfl⟩
  go_wp2_with fail
  refine (least_any _ _ _).mono ?_; rintro e w' ⟨rfl, rfl⟩
  go_wp2_with fail
  refine (HP0 _).out.mono ?_; rintro e w' ⟨rfl, rfl⟩
  go_wp2_with fail
  refine (in_dec (t := true) (by decide) _).mono ?_; rintro e w' ⟨rfl, rfl⟩
  go_wp2_with fail
  refine (HR _).out.mono ?_; rintro e w1 ⟨g, cap, rfl, hc, hb⟩
  have HB := Lib.hid hb; clear hb
  go_wp2
  refine wp_loop_rounds 1 ?_
  rw [rounds_succ]
  go_wp2_with fail
  refine (H1' _).out.mono ?_; rintro e w' ⟨rfl, rfl⟩
  go_wp2_with fail
  refine (same_error_nil_t _).mono ?_; rintro e w' ⟨rfl, rfl⟩
  go_wp2_with fail
  refine (H2' _).out.mono ?_; rintro e w' ⟨rfl, rfl⟩
  go_wp2_with fail
  refine (same_error_nil_t _).mono ?_; rintro e w' ⟨rfl, rfl⟩
  go_wp2_with fail
  refine (H3 _).out.mono ?_; rintro e w' ⟨rfl, rfl⟩
  go_wp2_with fail
  refine (same_error_hit_t _ (HG.out.below HB.out)).mono ?_; rintro e w3 ⟨rfl, hb3⟩
  have HB3 := Lib.hid (HB.out.trans (hb3.mono HB.out.size)); clear hb3
  go_wp2_with fail
  go_ret
  exact ⟨rfl, HB3.out⟩
set_option maxHeartbeats 1000000 in
theorem says_ok (n p : Int) (w : World) (hg : TyCell w) (h : okP n p) (hn : 1 ≤ n) :
    Calls Tryd.prog 3 #[.int .i64 n, .int .i64 p] w fun e w' => e = .returned (.bool true) ∧ Below w.heap.size w w' := by
  have H1 := fun w => Lib.hid (at_yes n p w h)
  have H2 := fun w => Lib.hid (place_yes n p w h)
  have H3 := fun w => Lib.hid (turn_yes n p w h hn)
  obtain ⟨s1, s2, s3, s4, s5⟩ := okP_says h
  obtain ⟨t0, t1, a0, a1, b0, b1, _, _, _, _, hall⟩ := okP_one h hn
  have hk := nx_eq h
  have hlast : Hid (nx n.toNat p = if p + 1 = 2 ^ n.toNat then 0 else p + 1) := rfl
  have s6 := gr_at hk
  have HG := Lib.hid hg; clear hg
  obtain ⟨h0, h8, hp0, hp1⟩ := h
  have hmin : min n 8 = n := by omega
  have H4 : ∀ w, Hid (Calls Tryd.prog 5 #[.int .i64 (min n 8)] w fun e w' => e = .returned (.int .i64 (2 ^ n.toNat)) ∧ w = w') := fun w => by rw [hmin]; exact power_any n w h8
  obtain ⟨hq1, hq2, hq3⟩ := pow_nat n.toNat (by omega)
  have HR := fun w => Lib.hid (gray_any n w h8)
  clear hmin
  generalize hG : gr n.toNat = G at *
  generalize nx n.toNat p = r at *
  generalize gAt p = x at *
  generalize gAt r = y at *
  generalize pl 9 p 0 = W at *
  generalize gTurn n.toNat p = k at *
  generalize (2:Nat) ^ n.toNat = q at *
  rw [← hq3] at hp1 hlast H4
  clear hq3 hG
  obtain ⟨W, rfl⟩ := Int.eq_ofNat_of_zero_le s4
  obtain ⟨p, rfl⟩ := Int.eq_ofNat_of_zero_le hp0
  simp only [Int.toNat_natCast] at s1 s2 s3
  have HA := Lib.hid hall; clear hall
  have HS3 := Lib.hid s3; clear s3
  have HS1 := Lib.hid (map_at s1); have HS2 := Lib.hid (map_at s2); have HS6 := Lib.hid (map_at s6)
  have hWl : W < G.length := (List.getElem?_eq_some_iff.1 s2).1
  clear s1 s2 s6 hk
  have hd2 : Hid (decide (0 ≤ (p : Int) ∧ (p : Int) ≤ (q : Int) - 1) = true) := by show _ = _; simpa using hp1
  have hd1 : Hid (decide (0 ≤ n ∧ n ≤ 8) = true) := by show _ = _; simp; omega
  have r0 : 0 ≤ r ∧ r < q := by have := hlast.out; split at this <;> omega
  by_cases hl : (p : Int) + 1 < q
  · have hlast2 := hlast.out
    clear hlast
    rw [if_neg (by omega)] at hlast2
    subst hlast2
    go_enter Tryd.func3, Tryd.ntmps3
    go_wp2_with fail
    refine (in_dec hd1.out _).mono ?_; rintro e w' ⟨rfl, rfl⟩
    go_wp2_with fail
    refine (least_any _ _ _).mono ?_; rintro e w' ⟨rfl, rfl⟩
    go_wp2_with fail
    refine (H4 _).out.mono ?_; rintro e w' ⟨rfl, rfl⟩
    go_wp2_with fail
    refine (in_dec hd2.out _).mono ?_; rintro e w' ⟨rfl, rfl⟩
    go_wp2_with fail
    refine (HR _).out.mono ?_; rintro e w1 ⟨v, rfl, ho, hb⟩
    have HB := Lib.hid hb; clear hb
    have hGl : G.length = q := by have := ho.1; simpa using this
    have HGl := Lib.hid hGl
    obtain ⟨g, cap, u, rfl, _, _, hu, hc⟩ := own_at ho (k := p) (by omega)
    obtain rfl := Option.some.inj (hu.symm.trans HS1.out)
    clear hu hGl
    have hWq : W < q := by have := HGl.out; omega
    obtain ⟨g', cap', u, hv, _, _, hu, hc2⟩ := own_at ho (k := W) (by omega)
    simp only [Value.slice.injEq, Option.some.injEq, Addr.mk.injEq] at hv
    obtain ⟨⟨rfl, _⟩, _, rfl⟩ := hv
    obtain rfl := Option.some.inj (hu.symm.trans HS2.out)
    clear hu
    have HO := Lib.hid ho; clear ho
    go_wp2_with fail
    go_loop [7] (fun i => ∃ j : Nat, j ≤ W ∧ i = .int .i64 j) (fun i => W - (intOf i).toNat)
    case atStart => exact ⟨0, by omega, rfl⟩
    case round =>
      obtain ⟨j, hj, rfl⟩ := hrel
      by_cases hlt : j < W
      · obtain ⟨u, hu, hne⟩ := HS3.out j hlt
        obtain ⟨g', cap', u', hv, _, _, hu', hc3⟩ := own_at HO.out (k := j) (by omega)
        simp only [Value.slice.injEq, Option.some.injEq, Addr.mk.injEq] at hv
        obtain ⟨⟨rfl, _⟩, _, rfl⟩ := hv
        obtain rfl := Option.some.inj (hu'.symm.trans (map_at hu))
        have hneb : (u != (p : Int)) = true := by simpa using hne
        clear hu hu' hne
        go_wp2_with fail
        go_round
        case rel => exact ⟨j + 1, by omega, by go_num⟩
        case measure => simp [intOf] <;> omega
      · obtain rfl : j = W := by omega
        have hneb : ((p : Int) != (p : Int)) = false := by simp
        obtain ⟨g', cap', u', hv, _, _, hu', hc3⟩ := own_at HO.out (k := 0) (by omega)
        simp only [Value.slice.injEq, Option.some.injEq, Addr.mk.injEq] at hv
        obtain ⟨⟨rfl, _⟩, _, rfl⟩ := hv
        obtain ⟨u0, hu0⟩ : ∃ u0 : Int, u' = .int .i64 u0 := by
          have := hu'; rw [List.getElem?_map] at this
          cases hh : G[0]? with
          | none => rw [hh] at this; simp at this
          | some z => rw [hh] at this; exact ⟨z, by simpa using this.symm⟩
        subst hu0
        have HU0 := Lib.hid hu'; clear hu'
        obtain ⟨g', cap', u2, hv, _, _, hu2, hc4⟩ := own_at HO.out (k := p + 1) (by omega)
        simp only [Value.slice.injEq, Option.some.injEq, Addr.mk.injEq] at hv
        obtain ⟨⟨rfl, _⟩, _, rfl⟩ := hv
        obtain rfl := Option.some.inj (hu2.symm.trans HS6.out)
        clear hu2
        go_wp2_with fail
        go_loop [8] (fun i => ∃ j : Nat, (j : Int) ≤ k ∧ i = .int .i64 j) (fun i => k.toNat - (intOf i).toNat)
        case atStart => exact ⟨0, by omega, rfl⟩
        case round =>
          obtain ⟨j2, hj2, rfl⟩ := hrel
          have hd := HA.out j2 (by omega)
          by_cases hlt2 : (j2 : Int) < k
          · have HF : Hid ((mem x j2 == mem y j2) = true) := by
              have e : decide ((j2:Int) = k) = false := by simp; omega
              rw [e] at hd; show _ = _; simpa using hd
            clear hd
            go_wp2_with fail
            refine (member_any x j2 _ (by omega) (by omega) (by omega) (by omega)).mono ?_; rintro e w' ⟨rfl, rfl⟩
            go_wp2_with fail
            refine (member_any y j2 _ (by omega) (by omega) (by omega) (by omega)).mono ?_; rintro e w' ⟨rfl, rfl⟩
            rw [Int.toNat_natCast]
            have HF2 := HF.out
            go_wp2_with fail
            go_round
            case rel => exact ⟨j2 + 1, by omega, by go_num⟩
            case measure => simp [intOf] <;> omega
          · have HF : Hid ((mem x j2 == mem y j2) = false) := by
              have e : decide ((j2:Int) = k) = true := by simp; omega
              rw [e] at hd; show _ = _; simpa using hd
            obtain rfl : k = j2 := by omega
            clear hd
            go_wp2_with fail
            refine (member_any x _ _ (by omega) (by omega) (by omega) (by omega)).mono ?_; rintro e w' ⟨rfl, rfl⟩
            go_wp2_with fail
            refine (member_any y _ _ (by omega) (by omega) (by omega) (by omega)).mono ?_; rintro e w' ⟨rfl, rfl⟩
            rw [Int.toNat_natCast]
            have HF2 := HF.out
            go_wp2_with fail
            refine (H1 _).out.mono ?_; rintro e w' ⟨rfl, rfl⟩
            go_wp2_with fail
            refine (same_error_nil_t _).mono ?_; rintro e w' ⟨rfl, rfl⟩
            go_wp2_with fail
            refine (H2 _).out.mono ?_; rintro e w' ⟨rfl, rfl⟩
            go_wp2_with fail
            refine (same_error_nil_t _).mono ?_; rintro e w' ⟨rfl, rfl⟩
            go_wp2_with fail
            refine (H3 _).out.mono ?_; rintro e w' ⟨rfl, rfl⟩
            go_wp2_with fail
            refine (same_error_nil_t _).mono ?_; rintro e w' ⟨rfl, rfl⟩
            go_wp2_with fail
            go_ret
            exact ⟨rfl, HB.out⟩
  · have hlast2 := hlast.out
    clear hlast
    rw [if_pos (by omega)] at hlast2
    subst hlast2
    go_enter Tryd.func3, Tryd.ntmps3
    go_wp2_with fail
    refine (in_dec hd1.out _).mono ?_; rintro e w' ⟨rfl, rfl⟩
    go_wp2_with fail
    refine (least_any _ _ _).mono ?_; rintro e w' ⟨rfl, rfl⟩
    go_wp2_with fail
    refine (H4 _).out.mono ?_; rintro e w' ⟨rfl, rfl⟩
    go_wp2_with fail
    refine (in_dec hd2.out _).mono ?_; rintro e w' ⟨rfl, rfl⟩
    go_wp2_with fail
    refine (HR _).out.mono ?_; rintro e w1 ⟨v, rfl, ho, hb⟩
    have HB := Lib.hid hb; clear hb
    have hGl : G.length = q := by have := ho.1; simpa using this
    have HGl := Lib.hid hGl
    obtain ⟨g, cap, u, rfl, _, _, hu, hc⟩ := own_at ho (k := p) (by omega)
    obtain rfl := Option.some.inj (hu.symm.trans HS1.out)
    clear hu hGl
    have hWq : W < q := by have := HGl.out; omega
    obtain ⟨g', cap', u, hv, _, _, hu, hc2⟩ := own_at ho (k := W) (by omega)
    simp only [Value.slice.injEq, Option.some.injEq, Addr.mk.injEq] at hv
    obtain ⟨⟨rfl, _⟩, _, rfl⟩ := hv
    obtain rfl := Option.some.inj (hu.symm.trans HS2.out)
    clear hu
    have HO := Lib.hid ho; clear ho
    go_wp2_with fail
    go_loop [7] (fun i => ∃ j : Nat, j ≤ W ∧ i = .int .i64 j) (fun i => W - (intOf i).toNat)
    case atStart => exact ⟨0, by omega, rfl⟩
    case round =>
      obtain ⟨j, hj, rfl⟩ := hrel
      by_cases hlt : j < W
      · obtain ⟨u, hu, hne⟩ := HS3.out j hlt
        obtain ⟨g', cap', u', hv, _, _, hu', hc3⟩ := own_at HO.out (k := j) (by omega)
        simp only [Value.slice.injEq, Option.some.injEq, Addr.mk.injEq] at hv
        obtain ⟨⟨rfl, _⟩, _, rfl⟩ := hv
        obtain rfl := Option.some.inj (hu'.symm.trans (map_at hu))
        have hneb : (u != (p : Int)) = true := by simpa using hne
        clear hu hu' hne
        go_wp2_with fail
        go_round
        case rel => exact ⟨j + 1, by omega, by go_num⟩
        case measure => simp [intOf] <;> omega
      · obtain rfl : j = W := by omega
        have hneb : ((p : Int) != (p : Int)) = false := by simp
        obtain ⟨g', cap', u', hv, _, _, hu', hc3⟩ := own_at HO.out (k := 0) (by omega)
        simp only [Value.slice.injEq, Option.some.injEq, Addr.mk.injEq] at hv
        obtain ⟨⟨rfl, _⟩, _, rfl⟩ := hv
        obtain ⟨u0, hu0⟩ : ∃ u0 : Int, u' = .int .i64 u0 := by
          have := hu'; rw [List.getElem?_map] at this
          cases hh : G[0]? with
          | none => rw [hh] at this; simp at this
          | some z => rw [hh] at this; exact ⟨z, by simpa using this.symm⟩
        subst hu0
        have HU0 := Lib.hid hu'; clear hu'
        obtain hy := Option.some.inj (HU0.out.symm.trans HS6.out)
        obtain rfl : y = u0 := by simpa using hy.symm
        clear hy
        go_wp2_with fail
        go_loop [8] (fun i => ∃ j : Nat, (j : Int) ≤ k ∧ i = .int .i64 j) (fun i => k.toNat - (intOf i).toNat)
        case atStart => exact ⟨0, by omega, rfl⟩
        case round =>
          obtain ⟨j2, hj2, rfl⟩ := hrel
          have hd := HA.out j2 (by omega)
          by_cases hlt2 : (j2 : Int) < k
          · have HF : Hid ((mem x j2 == mem y j2) = true) := by
              have e : decide ((j2:Int) = k) = false := by simp; omega
              rw [e] at hd; show _ = _; simpa using hd
            clear hd
            go_wp2_with fail
            refine (member_any x j2 _ (by omega) (by omega) (by omega) (by omega)).mono ?_; rintro e w' ⟨rfl, rfl⟩
            go_wp2_with fail
            refine (member_any y j2 _ (by omega) (by omega) (by omega) (by omega)).mono ?_; rintro e w' ⟨rfl, rfl⟩
            rw [Int.toNat_natCast]
            have HF2 := HF.out
            go_wp2_with fail
            go_round
            case rel => exact ⟨j2 + 1, by omega, by go_num⟩
            case measure => simp [intOf] <;> omega
          · have HF : Hid ((mem x j2 == mem y j2) = false) := by
              have e : decide ((j2:Int) = k) = true := by simp; omega
              rw [e] at hd; show _ = _; simpa using hd
            obtain rfl : k = j2 := by omega
            clear hd
            go_wp2_with fail
            refine (member_any x _ _ (by omega) (by omega) (by omega) (by omega)).mono ?_; rintro e w' ⟨rfl, rfl⟩
            go_wp2_with fail
            refine (member_any y _ _ (by omega) (by omega) (by omega) (by omega)).mono ?_; rintro e w' ⟨rfl, rfl⟩
            rw [Int.toNat_natCast]
            have HF2 := HF.out
            go_wp2_with fail
            refine (H1 _).out.mono ?_; rintro e w' ⟨rfl, rfl⟩
            go_wp2_with fail
            refine (same_error_nil_t _).mono ?_; rintro e w' ⟨rfl, rfl⟩
            go_wp2_with fail
            refine (H2 _).out.mono ?_; rintro e w' ⟨rfl, rfl⟩
            go_wp2_with fail
            refine (same_error_nil_t _).mono ?_; rintro e w' ⟨rfl, rfl⟩
            go_wp2_with fail
            refine (H3 _).out.mono ?_; rintro e w' ⟨rfl, rfl⟩
            go_wp2_with fail
            refine (same_error_nil_t _).mono ?_; rintro e w' ⟨rfl, rfl⟩
            go_wp2_with fail
            go_ret
            exact ⟨rfl, HB.out⟩
theorem graySays_any (w : World) (hg : TyCell w) (a0 : Int) (_ : (Lit.int .i64 a0).wf = true) (a1 : Int) (_ : (Lit.int .i64 a1).wf = true) :
    Calls Tryd.prog 3 #[.int .i64 a0, .int .i64 a1] w fun e w' => e = .returned (.bool true) ∧ Below w.heap.size w w' := by
  by_cases h : okP a0 a1
  · by_cases hn : 1 ≤ a0
    · exact says_ok a0 a1 w hg h hn
    · obtain rfl : a0 = 0 := by have := h.1; omega
      exact says_zero a1 w hg h
  · exact says_bad a0 a1 w hg h
end Go.Proofs.YthleccpdflggjaaDoor
