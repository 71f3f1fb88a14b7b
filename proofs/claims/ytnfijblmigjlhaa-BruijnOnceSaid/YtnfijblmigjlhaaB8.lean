import Derived.Test.YtnfijblmigjlhaaB7
namespace Go.Proofs.Ytnfijblmigjlhaa
open Go.RowKit Pl
theorem once_facts {s l : Nat} (h : okB s l = true) : (ringM s l).length = s ^ l ∧ inAll (ringM s l) 0 (s - 1) = true ∧ ∀ i j, i < s ^ l → j < s ^ l → (subw (ringM s l) i l == subw (ringM s l) j l) = decide (i = j) := by
  have h' := h
  simp only [okB, Bool.and_eq_true, decide_eq_true_eq] at h'
  have := allB_at once_all (by omega) (by omega) h
  simp only [chkOnce, Bool.and_eq_true, beq_iff_eq, List.all_eq_true, decide_eq_true_eq, List.mem_range, bne_iff_ne] at this
  obtain ⟨⟨h1, h2⟩, h3⟩ := this
  refine ⟨h1, ?_, ?_⟩
  · unfold inAll
    rw [List.all_eq_true]
    intro x hx
    have := h2 x hx
    simp; omega
  · intro i j hi hj
    rcases Nat.lt_trichotomy i j with hlt | rfl | hlt
    · have := h3 j hj i hlt
      have e : i ≠ j := by omega
      simp only [decide_eq_false e, beq_eq_false_iff_ne]
      exact fun hh => this hh.symm
    · simp
    · have := h3 i hi j hlt
      have e : i ≠ j := by omega
      simp only [decide_eq_false e, beq_eq_false_iff_ne]
      exact this
theorem inAll_any_ok (A : Option Addr) (cap : Nat) (l : List Int) (a b : Int) (w : World) (hr : ReadsI w w.heap.size A l) (hl : l.length ≤ 1000) (h : inAll l a b = true) :
    Calls Try.prog 9 #[.slice A l.length cap, .int .i64 a, .int .i64 b] w fun e w' => e = .returned (.bool true) ∧ w = w' :=
  (rall_any A cap l a b w hr (by unfold maxLen; omega)).mono fun e w' ⟨h1, h2⟩ => ⟨by rw [h1, h], h2⟩
set_option maxHeartbeats 2000000 in
theorem once_ok (s l : Nat) (i j : Int) (w : World) (hB : okB s l = true) :
    Calls Try.prog 3 #[.int .i64 s, .int .i64 l, .int .i64 i, .int .i64 j] w fun e w' => e = .returned (.bool true) ∧ Below w.heap.size w w' := by
  obtain ⟨o1, o2, o3⟩ := once_facts hB
  have hE : errB s l = 0 := by
    simp only [okB, Bool.and_eq_true, decide_eq_true_eq] at hB
    unfold errB; rw [if_pos (by omega)]; exact if_neg (by simp only [Int.toNat_natCast]; omega)
  have HBr : ∀ w, Hid (Calls Try.prog 8 #[.int .i64 s, .int .i64 l] w fun e w' => e = .returned (.int .i64 0) ∧ w = w') := fun w => (bref_any s l w).mono fun e w' ⟨h1, h2⟩ => ⟨by rw [h1, hE], h2⟩
  clear hE
  have HRg := fun w => Lib.hid (ring_ok s l hB w)
  have rp := ring_pos hB
  have hpb : ∀ k, k ≤ l → 1 ≤ s ^ k ∧ s ^ k ≤ 729 := by
    simp only [okB, Bool.and_eq_true, decide_eq_true_eq] at hB
    exact fun k hk => pow_bd s k (by omega) (by omega) (by omega)
  have hsl : 1 ≤ s ∧ s ≤ 3 ∧ 1 ≤ l ∧ l ≤ 6 := by simp only [okB, Bool.and_eq_true, decide_eq_true_eq] at hB; omega
  have HPB := Lib.hid hpb
  clear hB hpb
  rw [o1] at rp
  obtain ⟨rp1, rp2⟩ := rp
  generalize hR : ringM s l = R at *
  have HL := Lib.hid o1; have HA := Lib.hid o2
  clear hR o1 o2
  obtain ⟨s1, s2, s3, s4⟩ := hsl
  have start : ∀ {R : Ending → World → Prop}, True := fun {_} => trivial
  clear start
  by_cases hij : (0 ≤ i ∧ i ≤ (s ^ l : Nat) - 1) ∧ (0 ≤ j ∧ j ≤ (s ^ l : Nat) - 1)
  · obtain ⟨⟨i0, i1⟩, j0, j1⟩ := hij
    obtain ⟨i, rfl⟩ := Int.eq_ofNat_of_zero_le i0
    obtain ⟨j, rfl⟩ := Int.eq_ofNat_of_zero_le j0
    have HO := Lib.hid (o3 i j (by omega) (by omega))
    clear o3
    have HD1 := Lib.hid (show decide ((0:Int) ≤ (i:Int) ∧ (i:Int) ≤ ((s ^ l : Nat) : Int) - 1) = true by simp only [decide_eq_true_eq]; omega)
    have HD2 := Lib.hid (show decide ((0:Int) ≤ (j:Int) ∧ (j:Int) ≤ ((s ^ l : Nat) : Int) - 1) = true by simp only [decide_eq_true_eq]; omega)
    generalize hq : s ^ l = q at *
    have HQ := Lib.hid hq; clear hq
    go_enter Try.func3, Try.ntmps3
    go_wp2_with fail
    refine (bfact_any _).mono ?_; rintro e w1 ⟨rfl, hb⟩
    have HB := Lib.hid hb; clear hb
    go_wp2_with fail
    refine (HRg _).out.mono ?_; rintro e w2 ⟨v, rfl, ho, hb⟩
    have hRl : 0 < R.length := by have := HL.out; omega
    obtain ⟨g, rcap, rfl, hg1, hg2, hcell⟩ := own_open ho hRl
    obtain ⟨A', cap', hv, hrd⟩ := own_readsI ho
    simp only [Value.slice.injEq] at hv
    obtain ⟨rfl, _, rfl⟩ := hv
    have HC := Lib.hid hcell; have HB2 := Lib.hid (HB.out.trans (hb.mono HB.out.size)); have HRD := Lib.hid hrd; clear ho hb hcell hrd
    go_wp2_with fail
    refine (HBr _).out.mono ?_; rintro e w' ⟨rfl, rfl⟩
    go_wp2_with fail
    go_loop [12, 13] (fun p i => ∃ k : Nat, k ≤ l ∧ i = .int .i64 k ∧ p = .int .i64 ((s ^ k : Nat) : Int)) (fun _ i => l - (intOf i).toNat)
    case atStart => exact ⟨0, Nat.zero_le _, rfl, rfl⟩
    case round =>
      obtain ⟨k, hk, rfl, rfl⟩ := hrel
      obtain ⟨p1, p2⟩ := HPB.out k hk
      have HE := Lib.hid (Nat.pow_succ s k)
      generalize hqq : s ^ k = qq at *
      have HQQ := Lib.hid hqq; clear hqq
      have hm : (qq : Int) * s ≤ 729 * 3 := Int.mul_le_mul (by omega) (by omega) (by omega) (by omega)
      have hm0 : 0 ≤ (qq : Int) * s := Int.mul_nonneg (by omega) (by omega)
      by_cases hlt : k < l
      · go_wp2_with fail
        go_round
        case rel => exact ⟨k + 1, by omega, by go_num, by rw [HE.out]; go_num⟩
        case measure => simp [intOf] <;> omega
      · obtain rfl : k = l := by omega
        obtain rfl : qq = q := HQQ.out.symm.trans HQ.out
        have hne : ((R.length : Int) != (qq : Int)) = false := by rw [HL.out]; simp
        go_wp2_with fail
        refine (inAll_any_ok _ _ R 0 (s - 1) _ HRD.out (by have := HL.out; omega) HA.out).mono ?_; rintro e w' ⟨rfl, rfl⟩
        go_wp2_with fail
        refine (in4_dec HD1.out _).mono ?_; rintro e w' ⟨rfl, rfl⟩
        go_wp2_with fail
        refine (in4_dec HD2.out _).mono ?_; rintro e w' ⟨rfl, rfl⟩
        go_wp2_with fail
        go_loopw [14, 15] (fun same kk wr => ∃ c n : Nat, c ≤ k ∧ kk = .int .i64 c ∧ same = .bool (subw R i c == subw R j c) ∧ wr = w2.drewN n) (fun _ kk _ => k - (intOf kk).toNat)
        case atStart => exact ⟨0, 0, Nat.zero_le _, rfl, by simp [subw], rfl⟩
        case round =>
          obtain ⟨c, n, hc, rfl, rfl, rfl⟩ := hrel
          by_cases hlt : c < k
          · have hmi : (i + c) % R.length < R.length := Nat.mod_lt _ hRl
            have hmj : (j + c) % R.length < R.length := Nat.mod_lt _ hRl
            have ci := HC.out ((i + c) % R.length) _ (by simp [hmi]; rfl)
            have cj := HC.out ((j + c) % R.length) _ (by simp [hmj]; rfl)
            have HS : Hid ((subw R i (c+1) == subw R j (c+1)) = (subw R i c == subw R j c && R[(i + c) % R.length] == R[(j + c) % R.length])) := by
              show _ = _
              rw [subw_succ, subw_succ, Bool.eq_iff_iff]
              simp only [beq_iff_eq, Bool.and_eq_true]
              rw [snoc_inj (by rw [subw_len, subw_len])]
              simp [List.getD, hmi, hmj]
            have eq1 : qq = R.length := HL.out.symm
            cases hsm : subw R i c == subw R j c
            · have HE : Hid ((subw R i (c+1) == subw R j (c+1)) = false) := by show _ = _; rw [HS.out, hsm]; rfl
              have HSM := Lib.hid hsm; clear hsm ci cj eq1
              go_wp2_with fail
              go_quiet (fail)
              go_wp2_with fail
              go_roundw
              case rel => exact ⟨c + 1, _, by omega, by go_num, by rw [HE.out], rfl⟩
              case measure => simp [intOf] <;> omega
            · have HE : Hid ((subw R i (c+1) == subw R j (c+1)) = (R[(i + c) % R.length] == R[(j + c) % R.length])) := by show _ = _; rw [HS.out, hsm]; rfl
              have HSM := Lib.hid hsm; clear hsm
              have EQ1 := Lib.hid eq1
              generalize R[(i + c) % R.length] = xi at *
              generalize R[(j + c) % R.length] = xj at *
              rw [← eq1] at ci cj hmi hmj
              clear eq1
              have hm2 : ((i : Int) + c) % (qq : Int) < qq := Int.emod_lt_of_pos _ (by omega)
              have hm3 : 0 ≤ ((i : Int) + c) % (qq : Int) := Int.emod_nonneg _ (by omega)
              have hm4 : ((j : Int) + c) % (qq : Int) < qq := Int.emod_lt_of_pos _ (by omega)
              have hm5 : 0 ≤ ((j : Int) + c) % (qq : Int) := Int.emod_nonneg _ (by omega)
              have hm6 : ((i : Int) + c) % (qq : Int) < R.length := by have := EQ1.out; omega
              have hm7 : ((j : Int) + c) % (qq : Int) < R.length := by have := EQ1.out; omega
              have e3 : (((i : Int) + c) % (qq : Int)).toNat = (i + c) % qq := by rw [modc]; omega
              have e6 : (((j : Int) + c) % (qq : Int)).toNat = (j + c) % qq := by rw [modc]; omega
              have e1 : IntKind.i64.wrap ((i : Int) + c) = (i : Int) + c := IntWalk.i64_in _ (by omega)
              have e4 : IntKind.i64.wrap ((j : Int) + c) = (j : Int) + c := IntWalk.i64_in _ (by omega)
              have e2 : IntKind.i64.wrap (((i : Int) + c) % (qq : Int)) = ((i : Int) + c) % (qq : Int) := IntWalk.i64_in _ (by omega)
              have e5 : IntKind.i64.wrap (((j : Int) + c) % (qq : Int)) = ((j : Int) + c) % (qq : Int) := IntWalk.i64_in _ (by omega)
              go_wp2_with fail
              go_quiet (fail)
              clear e1 e2 e3 e4 e5 e6
              go_wp2_with fail
              go_roundw
              case rel => exact ⟨c + 1, _, by omega, by go_num, by rw [HE.out], rfl⟩
              case measure => simp [intOf] <;> omega
          · obtain rfl : c = k := by omega
            rw [HO.out]
            by_cases hijj : i = j
            · have hb2 : ((i : Int) == (j : Int)) = true := by simp; omega
              have hb1 := Lib.hid (show decide (i = j) = true by simpa using hijj)
              have HI := Lib.hid hijj; clear hijj
              rw [hb1.out]
              go_wp2_with fail
              go_ret
              exact ⟨rfl, drewN_below HB2.out _⟩
            · have hb2 : ((i : Int) == (j : Int)) = false := by simp; omega
              have hb1 := Lib.hid (show decide (i = j) = false by simpa using hijj)
              have HI := Lib.hid hijj; clear hijj
              rw [hb1.out]
              go_wp2_with fail
              go_ret
              exact ⟨rfl, drewN_below HB2.out _⟩
  · clear o3
    by_cases hi : 0 ≤ i ∧ i ≤ (s ^ l : Nat) - 1
    · have hj : ¬ (0 ≤ j ∧ j ≤ (s ^ l : Nat) - 1) := fun h => hij ⟨hi, h⟩
      have HD1 := Lib.hid (decide_eq_true hi)
      have HD2 := Lib.hid (decide_eq_false hj)
      clear hij hi hj
      generalize hq : s ^ l = q at *
      have HQ := Lib.hid hq; clear hq
      go_enter Try.func3, Try.ntmps3
      go_wp2_with fail
      refine (bfact_any _).mono ?_; rintro e w1 ⟨rfl, hb⟩
      have HB := Lib.hid hb; clear hb
      go_wp2_with fail
      refine (HRg _).out.mono ?_; rintro e w2 ⟨v, rfl, ho, hb⟩
      have hRl : 0 < R.length := by have := HL.out; omega
      obtain ⟨A', cap', hv, hrd⟩ := own_readsI ho
      subst hv
      have HB2 := Lib.hid (HB.out.trans (hb.mono HB.out.size)); have HRD := Lib.hid hrd; clear ho hb hrd
      go_wp2_with fail
      refine (HBr _).out.mono ?_; rintro e w' ⟨rfl, rfl⟩
      go_wp2_with fail
      go_loop [12, 13] (fun p i => ∃ k : Nat, k ≤ l ∧ i = .int .i64 k ∧ p = .int .i64 ((s ^ k : Nat) : Int)) (fun _ i => l - (intOf i).toNat)
      case atStart => exact ⟨0, Nat.zero_le _, rfl, rfl⟩
      case round =>
        obtain ⟨k, hk, rfl, rfl⟩ := hrel
        obtain ⟨p1, p2⟩ := HPB.out k hk
        have HE := Lib.hid (Nat.pow_succ s k)
        generalize hqq : s ^ k = qq at *
        have HQQ := Lib.hid hqq; clear hqq
        have hm : (qq : Int) * s ≤ 729 * 3 := Int.mul_le_mul (by omega) (by omega) (by omega) (by omega)
        have hm0 : 0 ≤ (qq : Int) * s := Int.mul_nonneg (by omega) (by omega)
        by_cases hlt : k < l
        · go_wp2_with fail
          go_round
          case rel => exact ⟨k + 1, by omega, by go_num, by rw [HE.out]; go_num⟩
          case measure => simp [intOf] <;> omega
        · obtain rfl : k = l := by omega
          obtain rfl : qq = q := HQQ.out.symm.trans HQ.out
          have hne : ((R.length : Int) != (qq : Int)) = false := by rw [HL.out]; simp
          go_wp2_with fail
          refine (inAll_any_ok _ _ R 0 (s - 1) _ HRD.out (by have := HL.out; omega) HA.out).mono ?_; rintro e w' ⟨rfl, rfl⟩
          go_wp2_with fail
          refine (in4_dec HD1.out _).mono ?_; rintro e w' ⟨rfl, rfl⟩
          go_wp2_with fail
          refine (in4_dec HD2.out _).mono ?_; rintro e w' ⟨rfl, rfl⟩
          go_wp2_with fail
          go_ret
          exact ⟨rfl, HB2.out⟩
    · have HD1 := Lib.hid (decide_eq_false hi)
      clear hij hi
      generalize hq : s ^ l = q at *
      have HQ := Lib.hid hq; clear hq
      go_enter Try.func3, Try.ntmps3
      go_wp2_with fail
      refine (bfact_any _).mono ?_; rintro e w1 ⟨rfl, hb⟩
      have HB := Lib.hid hb; clear hb
      go_wp2_with fail
      refine (HRg _).out.mono ?_; rintro e w2 ⟨v, rfl, ho, hb⟩
      have hRl : 0 < R.length := by have := HL.out; omega
      obtain ⟨A', cap', hv, hrd⟩ := own_readsI ho
      subst hv
      have HB2 := Lib.hid (HB.out.trans (hb.mono HB.out.size)); have HRD := Lib.hid hrd; clear ho hb hrd
      go_wp2_with fail
      refine (HBr _).out.mono ?_; rintro e w' ⟨rfl, rfl⟩
      go_wp2_with fail
      go_loop [12, 13] (fun p i => ∃ k : Nat, k ≤ l ∧ i = .int .i64 k ∧ p = .int .i64 ((s ^ k : Nat) : Int)) (fun _ i => l - (intOf i).toNat)
      case atStart => exact ⟨0, Nat.zero_le _, rfl, rfl⟩
      case round =>
        obtain ⟨k, hk, rfl, rfl⟩ := hrel
        obtain ⟨p1, p2⟩ := HPB.out k hk
        have HE := Lib.hid (Nat.pow_succ s k)
        generalize hqq : s ^ k = qq at *
        have HQQ := Lib.hid hqq; clear hqq
        have hm : (qq : Int) * s ≤ 729 * 3 := Int.mul_le_mul (by omega) (by omega) (by omega) (by omega)
        have hm0 : 0 ≤ (qq : Int) * s := Int.mul_nonneg (by omega) (by omega)
        by_cases hlt : k < l
        · go_wp2_with fail
          go_round
          case rel => exact ⟨k + 1, by omega, by go_num, by rw [HE.out]; go_num⟩
          case measure => simp [intOf] <;> omega
        · obtain rfl : k = l := by omega
          obtain rfl : qq = q := HQQ.out.symm.trans HQ.out
          have hne : ((R.length : Int) != (qq : Int)) = false := by rw [HL.out]; simp
          go_wp2_with fail
          refine (inAll_any_ok _ _ R 0 (s - 1) _ HRD.out (by have := HL.out; omega) HA.out).mono ?_; rintro e w' ⟨rfl, rfl⟩
          go_wp2_with fail
          refine (in4_dec HD1.out _).mono ?_; rintro e w' ⟨rfl, rfl⟩
          go_wp2_with fail
          go_ret
          exact ⟨rfl, HB2.out⟩
theorem bruijnOnce_any (w : World) (a0 : Int) (_ : (Lit.int .i64 a0).wf = true) (a1 : Int) (_ : (Lit.int .i64 a1).wf = true) (a2 : Int) (_ : (Lit.int .i64 a2).wf = true) (a3 : Int) (_ : (Lit.int .i64 a3).wf = true) :
    Calls Try.prog 3 #[.int .i64 a0, .int .i64 a1, .int .i64 a2, .int .i64 a3] w fun e w' => e = .returned (.bool true) ∧ Below w.heap.size w w' := by
  by_cases h : errB a0 a1 = 0
  · obtain ⟨s, l, rfl, rfl, hB⟩ := okB_nat h
    exact once_ok s l a2 a3 w hB
  · have HRg := fun w => Lib.hid (ring_bad a0 a1 h w)
    clear h
    generalize errB a0 a1 = q at *
    go_enter Try.func3, Try.ntmps3
    go_wp2_with fail
    refine (bfact_any _).mono ?_; rintro e w1 ⟨rfl, hb⟩
    have HB := Lib.hid hb; clear hb
    go_wp2_with fail
    refine (HRg _).out.mono ?_; rintro e w2 ⟨rfl, hb⟩
    have HB2 := Lib.hid (HB.out.trans (hb.mono HB.out.size)); clear hb
    go_wp2_with fail
    go_ret
    exact ⟨rfl, HB2.out⟩
end Go.Proofs.Ytnfijblmigjlhaa
