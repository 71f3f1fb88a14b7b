import Derived.Test.YtbloomegblbpfaaGreatDoorDm
/- DeskKeeps: walk -/
set_option linter.all false
set_option maxRecDepth 100000
namespace Go.Proofs.YtbloomegblbpfaaGreatDoor
open Go.RowKit Go.Shelf Pl
attribute [local go_sem] Oper.semAt_some
theorem last4_str (w : World) {s y : ByteArray} {n m : Nat} (hs : s.size = n + m + 1) (hmx : s.size ≤ 100000) (hin : ∀ k (h : k < s.size), n ≤ k → k < n + m → s[k] ≠ 10) (h0 : n = 0 ∨ ∃ h : n - 1 < s.size, s[n - 1] = 10) (hy : s.extract n s.size = y) :
    Calls Tryz.prog 11 #[.string s] w fun e w' => e = .returned (.string y) ∧ w = w' :=
  hy ▸ last4_ok w hs hmx hin h0
theorem keeps_cmp {a u v : ByteArray} (h : (a = tld 4 ∧ v = u) ∨ (a = tld 0 ∧ v = ⟨#[49]⟩) ∨ (a = tld 6 ∧ v = ⟨#[49]⟩ ∧ u = v)) :
    (((nlB a).toList == ([69, 114, 114, 70, 117, 108, 108, 10] : List UInt8)) = true ∧ nlB v = nlB u) ∨
    (((nlB a).toList == ([69, 114, 114, 70, 117, 108, 108, 10] : List UInt8)) = false ∧ ((nlB v).toList == ([49, 10] : List UInt8)) = true ∧ ((nlB a).toList == ([111, 107, 10] : List UInt8)) = true) ∨
    (((nlB a).toList == ([69, 114, 114, 70, 117, 108, 108, 10] : List UInt8)) = false ∧ ((nlB v).toList == ([49, 10] : List UInt8)) = true ∧ ((nlB a).toList == ([111, 107, 10] : List UInt8)) = false ∧ ((nlB a).toList == ([69, 114, 114, 67, 108, 97, 115, 104, 10] : List UInt8)) = true ∧ nlB u = nlB v) := by
  rcases h with ⟨rfl, rfl⟩ | ⟨rfl, rfl⟩ | ⟨rfl, rfl, rfl⟩
  · exact .inl ⟨by decide +kernel, rfl⟩
  · exact .inr (.inl ⟨by decide +kernel, by decide +kernel, by decide +kernel⟩)
  · exact .inr (.inr ⟨by decide +kernel, by decide +kernel, by decide +kernel, by decide +kernel, rfl⟩)
set_option maxHeartbeats 8000000 in
theorem deskKeeps_any (w : World) (hop : OpB w.heap.size w) (htc : TyCell w) (t : ByteArray) (_ : t.size ≤ maxLen) (i : Int) (_ : (Lit.int .i64 i).wf = true) (j : Int) (_ : (Lit.int .i64 j).wf = true) :
    Calls Tryz.prog 6 #[.string t, .int .i64 i, .int .i64 j] w fun e w' => e = .returned (.bool true) ∧ Below w.heap.size w w' := by
  have HOP := Lib.hid hop; have HTC := Lib.hid htc; clear hop htc
  have hq : ((⟨#[48, 10]⟩ : ByteArray).toList != ([48, 10] : List UInt8)) = false := by decide +kernel
  have HC := Lib.hid (dRun_ok w HOP.out HTC.out fact_many)
  go_enter Tryz.func6, Tryz.ntmps6
  go_wp2_with fail
  refine HC.out.mono ?_; rintro e W1 ⟨rfl, hd⟩
  have HD := Lib.hid hd
  replace HOP := Lib.hid (HOP.out.go hd)
  replace HTC := Lib.hid (HTC.out.go hd); clear hd HC
  by_cases h1 : 2900 < t.size
  · have h1d := decide_eq_true (show (2900 : Int) < (t.size : Int) by omega)
    go_wp2_with fail
    go_ret
    exact ⟨rfl, HD.out⟩
  have h1d := decide_eq_false (show ¬ (2900 : Int) < (t.size : Int) by omega)
  by_cases hz : 0 < t.size
  · have hzd := decide_eq_true (show (0 : Int) < (t.size : Int) by omega)
    obtain ⟨k, hk⟩ : ∃ k, t.size = k + 1 := ⟨t.size - 1, by omega⟩
    have hkt : k < t.size := by omega
    have hwh := whole_end hk
    have hjw : ((t.size : Nat) : Int) - 1 = (k : Int) := by omega
    have hwj : wrap64 (k : Int) = (k : Int) := by unfold wrap64; omega
    have fx := (bl_at hkt)
    generalize hck : t[k] = ck at *
    have fxt : ∃ h : k < t.size, t[k] = ck := ⟨hkt, hck⟩
    by_cases hq10 : ck = 10
    · have hwh := hwh.2 hq10
      have hqb : ((ck.toNat : Int) != 10) = false := by rw [hq10]; rfl
      go_wp2_with fail
      by_cases ci : 0 ≤ i ∧ i ≤ 7
      case neg =>
        refine (in4_dec (decide_eq_false ci) _).mono ?_; rintro e2 _ ⟨rfl, rfl⟩
        go_wp2_with fail
        go_ret
        exact ⟨rfl, HD.out⟩
      refine (in4_dec (decide_eq_true ci) _).mono ?_; rintro e2 _ ⟨rfl, rfl⟩
      go_wp2_with fail
      by_cases cj : 0 ≤ j ∧ j ≤ 7
      case neg =>
        refine (in4_dec (decide_eq_false cj) _).mono ?_; rintro e2 _ ⟨rfl, rfl⟩
        go_wp2_with fail
        go_ret
        exact ⟨rfl, HD.out⟩
      refine (in4_dec (decide_eq_true cj) _).mono ?_; rintro e2 _ ⟨rfl, rfl⟩
      by_cases cij : i = j
      · have hij : (i == j) = true := by rw [cij]; exact beq_self_eq_true _
        go_wp2_with fail
        go_ret
        exact ⟨rfl, HD.out⟩
      have hij : (i == j) = false := beq_eq_false_iff_ne.2 cij
      obtain ⟨i, rfl⟩ := Int.eq_ofNat_of_zero_le ci.1
      obtain ⟨j, rfl⟩ := Int.eq_ofNat_of_zero_le cj.1
      go_upto_region 6 with (fail)
      have hi8 : i < 8 := by omega
      have hj8 : j < 8 := by omega
      have hne : i ≠ j := by omega
      have ht29 : t.size ≤ 2900 := by omega
      clear hij cij ci cj hqb hq10 fx fxt hck hwj hjw hk hkt hzd hz h1d h1
      obtain ⟨q, q3, q4, a, u, v, m1, m2, m3, m4, ⟨wq, wq3, wq4⟩, ⟨lq, lq3, lq4⟩, ⟨na, nu, nv⟩, hcs⟩ := keeps_ev ht29 hwh hi8 hj8 hne
      obtain ⟨z1, z2, z3, z4, z5⟩ := last_parts wq na.1 (by omega) _ rfl
      obtain ⟨y1, y2, y3, y4, y5⟩ := last_parts wq nu.1 (by omega) _ rfl
      obtain ⟨x1, x2, x3, x4, x5⟩ := last_parts wq3 nv.1 (by omega) _ rfl
      obtain ⟨u1, u2, u3, u4, u5⟩ := last_parts wq4 nv.1 (by omega) _ rfl
      have HLA := Lib.hid (fun W => last4_str W z1 z2 z3 z4 z5)
      have HLU := Lib.hid (fun W => last4_str W y1 y2 y3 y4 y5)
      have HLV := Lib.hid (fun W => last4_str W x1 x2 x3 x4 x5)
      have HLW := Lib.hid (fun W => last4_str W u1 u2 u3 u4 u5)
      have HCS := Lib.hid (keeps_cmp hcs); clear hcs
      clear z1 z2 z3 z4 z5 y1 y2 y3 y4 y5 x1 x2 x3 x4 x5 u1 u2 u3 u4 u5 wq wq3 wq4 lq lq3 lq4 na nu nv
      generalize (⟨(q ++ (a.data.toList ++ [10])).toArray⟩ : ByteArray) = XA at *
      generalize (⟨(q ++ (u.data.toList ++ [10])).toArray⟩ : ByteArray) = XU at *
      generalize (⟨(q3 ++ (v.data.toList ++ [10])).toArray⟩ : ByteArray) = XV at *
      generalize (⟨(q4 ++ (v.data.toList ++ [10])).toArray⟩ : ByteArray) = XW at *
      generalize nlB a = YA at *
      generalize nlB u = YU at *
      generalize nlB v = YV at *
      clear q q3 q4 a u v
      have HM1 := Lib.hid m1; have HM2 := Lib.hid m2; have HM3 := Lib.hid m3; have HM4 := Lib.hid m4; clear m1 m2 m3 m4
      have HDI := Lib.hid (fun W => digits_ok W 1 i (by omega) (by omega))
      have HDJ := Lib.hid (fun W => digits_ok W 1 j (by omega) (by omega))
      have hcJ : cL [106, 111, 105, 110, 32] i j = (((⟨#[106, 111, 105, 110, 32]⟩ ++ dec (i : Int)) ++ (⟨#[32]⟩ : ByteArray)) ++ dec (j : Int)) ++ (⟨#[10]⟩ : ByteArray) := rfl
      have hcF : cL [102, 97, 114, 32] i j = (((⟨#[102, 97, 114, 32]⟩ ++ dec (i : Int)) ++ (⟨#[32]⟩ : ByteArray)) ++ dec (j : Int)) ++ (⟨#[10]⟩ : ByteArray) := rfl
      have zJ : (cL [106, 111, 105, 110, 32] i j).size = 9 := by rw [← bytes_len, cL_data hi8 hj8]; rfl
      have zF : (cL [102, 97, 114, 32] i j).size = 8 := by rw [← bytes_len, cL_data hi8 hj8]; rfl
      have zdi : (dec (i : Int)).size = 1 := by rw [dec_1 (by omega)]; rfl
      have zdj : (dec (j : Int)).size = 1 := by rw [dec_1 (by omega)]; rfl
      generalize cL [106, 111, 105, 110, 32] i j = JB at *
      generalize cL [102, 97, 114, 32] i j = FB at *
      generalize dec (i : Int) = di at *
      generalize dec (j : Int) = dj at *
      have HJB := Lib.hid hcJ; have HFB := Lib.hid hcF; clear hcJ hcF
      go_wp2_with fail
      refine (HDI.out _).mono ?_; rintro e2 _ ⟨rfl, rfl⟩
      go_wp2_with fail
      refine (HDJ.out _).mono ?_; rintro e3 _ ⟨rfl, rfl⟩
      go_upto_region 7 with (fail)
      rw [← HJB.out]
      go_wp2_with fail
      refine (HDI.out _).mono ?_; rintro e4 _ ⟨rfl, rfl⟩
      go_wp2_with fail
      refine (HDJ.out _).mono ?_; rintro e5 _ ⟨rfl, rfl⟩
      go_upto_region 8 with (fail)
      rw [← HFB.out]
      clear zdi zdj
      go_wp2_with fail
      refine (dRun_ok W1 (HOP.out.mono HD.out.size) HTC.out HM1.out).mono ?_; rintro e6 W2 ⟨rfl, hd⟩
      replace HOP := Lib.hid (HOP.out.go (hd.mono HD.out.size))
      replace HTC := Lib.hid (HTC.out.go hd)
      replace HD := Lib.hid (HD.out.trans (hd.mono HD.out.size)); clear hd
      go_wp2_with fail
      refine (HLA.out _).mono ?_; rintro e7 _ ⟨rfl, rfl⟩
      go_wp2_with fail
      refine (dRun_ok W2 (HOP.out.mono HD.out.size) HTC.out HM2.out).mono ?_; rintro e8 W3 ⟨rfl, hd⟩
      replace HOP := Lib.hid (HOP.out.go (hd.mono HD.out.size))
      replace HTC := Lib.hid (HTC.out.go hd)
      replace HD := Lib.hid (HD.out.trans (hd.mono HD.out.size)); clear hd
      go_wp2_with fail
      refine (HLU.out _).mono ?_; rintro e9 _ ⟨rfl, rfl⟩
      go_wp2_with fail
      refine (dRun_ok W3 (HOP.out.mono HD.out.size) HTC.out HM3.out).mono ?_; rintro e10 W4 ⟨rfl, hd⟩
      replace HOP := Lib.hid (HOP.out.go (hd.mono HD.out.size))
      replace HTC := Lib.hid (HTC.out.go hd)
      replace HD := Lib.hid (HD.out.trans (hd.mono HD.out.size)); clear hd
      go_wp2_with fail
      refine (HLV.out _).mono ?_; rintro e11 _ ⟨rfl, rfl⟩
      go_wp2_with fail
      refine (dRun_ok W4 (HOP.out.mono HD.out.size) HTC.out HM4.out).mono ?_; rintro e12 W5 ⟨rfl, hd⟩
      replace HD := Lib.hid (HD.out.trans (hd.mono HD.out.size)); clear hd
      go_wp2_with fail
      refine (HLW.out _).mono ?_; rintro e13 _ ⟨rfl, rfl⟩
      rcases HCS.out with ⟨k1, rfl⟩ | ⟨k1, k2, k3⟩ | ⟨k1, k2, k3, k4, rfl⟩
      · have self := beq_self_eq_true YV.toList
        go_wp2_with fail
        go_ret
        exact ⟨rfl, HD.out⟩
      · have self := beq_self_eq_true YV.toList
        go_wp2_with fail
        go_ret
        exact ⟨rfl, HD.out⟩
      · have self := beq_self_eq_true YU.toList
        go_wp2_with fail
        go_ret
        exact ⟨rfl, HD.out⟩
    · have hqb : ((ck.toNat : Int) != 10) = true := by
        rw [bne_iff_ne]; intro e
        exact hq10 (UInt8.toNat_inj.1 (by show ck.toNat = 10; omega))
      clear hwh hq10
      go_wp2_with fail
      go_ret
      exact ⟨rfl, HD.out⟩
  · have hzd := decide_eq_false (show ¬ (0 : Int) < (t.size : Int) by omega)
    have hwh : whole t.data.toList := .inl (List.eq_nil_of_length_eq_zero (by rw [bytes_len]; omega))
    go_wp2_with fail
    by_cases ci : 0 ≤ i ∧ i ≤ 7
    case neg =>
      refine (in4_dec (decide_eq_false ci) _).mono ?_; rintro e2 _ ⟨rfl, rfl⟩
      go_wp2_with fail
      go_ret
      exact ⟨rfl, HD.out⟩
    refine (in4_dec (decide_eq_true ci) _).mono ?_; rintro e2 _ ⟨rfl, rfl⟩
    go_wp2_with fail
    by_cases cj : 0 ≤ j ∧ j ≤ 7
    case neg =>
      refine (in4_dec (decide_eq_false cj) _).mono ?_; rintro e2 _ ⟨rfl, rfl⟩
      go_wp2_with fail
      go_ret
      exact ⟨rfl, HD.out⟩
    refine (in4_dec (decide_eq_true cj) _).mono ?_; rintro e2 _ ⟨rfl, rfl⟩
    by_cases cij : i = j
    · have hij : (i == j) = true := by rw [cij]; exact beq_self_eq_true _
      go_wp2_with fail
      go_ret
      exact ⟨rfl, HD.out⟩
    have hij : (i == j) = false := beq_eq_false_iff_ne.2 cij
    obtain ⟨i, rfl⟩ := Int.eq_ofNat_of_zero_le ci.1
    obtain ⟨j, rfl⟩ := Int.eq_ofNat_of_zero_le cj.1
    go_upto_region 6 with (fail)
    have hi8 : i < 8 := by omega
    have hj8 : j < 8 := by omega
    have hne : i ≠ j := by omega
    have ht29 : t.size ≤ 2900 := by omega
    clear hij cij ci cj hzd hz h1d h1
    obtain ⟨q, q3, q4, a, u, v, m1, m2, m3, m4, ⟨wq, wq3, wq4⟩, ⟨lq, lq3, lq4⟩, ⟨na, nu, nv⟩, hcs⟩ := keeps_ev ht29 hwh hi8 hj8 hne
    obtain ⟨z1, z2, z3, z4, z5⟩ := last_parts wq na.1 (by omega) _ rfl
    obtain ⟨y1, y2, y3, y4, y5⟩ := last_parts wq nu.1 (by omega) _ rfl
    obtain ⟨x1, x2, x3, x4, x5⟩ := last_parts wq3 nv.1 (by omega) _ rfl
    obtain ⟨u1, u2, u3, u4, u5⟩ := last_parts wq4 nv.1 (by omega) _ rfl
    have HLA := Lib.hid (fun W => last4_str W z1 z2 z3 z4 z5)
    have HLU := Lib.hid (fun W => last4_str W y1 y2 y3 y4 y5)
    have HLV := Lib.hid (fun W => last4_str W x1 x2 x3 x4 x5)
    have HLW := Lib.hid (fun W => last4_str W u1 u2 u3 u4 u5)
    have HCS := Lib.hid (keeps_cmp hcs); clear hcs
    clear z1 z2 z3 z4 z5 y1 y2 y3 y4 y5 x1 x2 x3 x4 x5 u1 u2 u3 u4 u5 wq wq3 wq4 lq lq3 lq4 na nu nv
    generalize (⟨(q ++ (a.data.toList ++ [10])).toArray⟩ : ByteArray) = XA at *
    generalize (⟨(q ++ (u.data.toList ++ [10])).toArray⟩ : ByteArray) = XU at *
    generalize (⟨(q3 ++ (v.data.toList ++ [10])).toArray⟩ : ByteArray) = XV at *
    generalize (⟨(q4 ++ (v.data.toList ++ [10])).toArray⟩ : ByteArray) = XW at *
    generalize nlB a = YA at *
    generalize nlB u = YU at *
    generalize nlB v = YV at *
    clear q q3 q4 a u v
    have HM1 := Lib.hid m1; have HM2 := Lib.hid m2; have HM3 := Lib.hid m3; have HM4 := Lib.hid m4; clear m1 m2 m3 m4
    have HDI := Lib.hid (fun W => digits_ok W 1 i (by omega) (by omega))
    have HDJ := Lib.hid (fun W => digits_ok W 1 j (by omega) (by omega))
    have hcJ : cL [106, 111, 105, 110, 32] i j = (((⟨#[106, 111, 105, 110, 32]⟩ ++ dec (i : Int)) ++ (⟨#[32]⟩ : ByteArray)) ++ dec (j : Int)) ++ (⟨#[10]⟩ : ByteArray) := rfl
    have hcF : cL [102, 97, 114, 32] i j = (((⟨#[102, 97, 114, 32]⟩ ++ dec (i : Int)) ++ (⟨#[32]⟩ : ByteArray)) ++ dec (j : Int)) ++ (⟨#[10]⟩ : ByteArray) := rfl
    have zJ : (cL [106, 111, 105, 110, 32] i j).size = 9 := by rw [← bytes_len, cL_data hi8 hj8]; rfl
    have zF : (cL [102, 97, 114, 32] i j).size = 8 := by rw [← bytes_len, cL_data hi8 hj8]; rfl
    have zdi : (dec (i : Int)).size = 1 := by rw [dec_1 (by omega)]; rfl
    have zdj : (dec (j : Int)).size = 1 := by rw [dec_1 (by omega)]; rfl
    generalize cL [106, 111, 105, 110, 32] i j = JB at *
    generalize cL [102, 97, 114, 32] i j = FB at *
    generalize dec (i : Int) = di at *
    generalize dec (j : Int) = dj at *
    have HJB := Lib.hid hcJ; have HFB := Lib.hid hcF; clear hcJ hcF
    go_wp2_with fail
    refine (HDI.out _).mono ?_; rintro e2 _ ⟨rfl, rfl⟩
    go_wp2_with fail
    refine (HDJ.out _).mono ?_; rintro e3 _ ⟨rfl, rfl⟩
    go_upto_region 7 with (fail)
    rw [← HJB.out]
    go_wp2_with fail
    refine (HDI.out _).mono ?_; rintro e4 _ ⟨rfl, rfl⟩
    go_wp2_with fail
    refine (HDJ.out _).mono ?_; rintro e5 _ ⟨rfl, rfl⟩
    go_upto_region 8 with (fail)
    rw [← HFB.out]
    clear zdi zdj
    go_wp2_with fail
    refine (dRun_ok W1 (HOP.out.mono HD.out.size) HTC.out HM1.out).mono ?_; rintro e6 W2 ⟨rfl, hd⟩
    replace HOP := Lib.hid (HOP.out.go (hd.mono HD.out.size))
    replace HTC := Lib.hid (HTC.out.go hd)
    replace HD := Lib.hid (HD.out.trans (hd.mono HD.out.size)); clear hd
    go_wp2_with fail
    refine (HLA.out _).mono ?_; rintro e7 _ ⟨rfl, rfl⟩
    go_wp2_with fail
    refine (dRun_ok W2 (HOP.out.mono HD.out.size) HTC.out HM2.out).mono ?_; rintro e8 W3 ⟨rfl, hd⟩
    replace HOP := Lib.hid (HOP.out.go (hd.mono HD.out.size))
    replace HTC := Lib.hid (HTC.out.go hd)
    replace HD := Lib.hid (HD.out.trans (hd.mono HD.out.size)); clear hd
    go_wp2_with fail
    refine (HLU.out _).mono ?_; rintro e9 _ ⟨rfl, rfl⟩
    go_wp2_with fail
    refine (dRun_ok W3 (HOP.out.mono HD.out.size) HTC.out HM3.out).mono ?_; rintro e10 W4 ⟨rfl, hd⟩
    replace HOP := Lib.hid (HOP.out.go (hd.mono HD.out.size))
    replace HTC := Lib.hid (HTC.out.go hd)
    replace HD := Lib.hid (HD.out.trans (hd.mono HD.out.size)); clear hd
    go_wp2_with fail
    refine (HLV.out _).mono ?_; rintro e11 _ ⟨rfl, rfl⟩
    go_wp2_with fail
    refine (dRun_ok W4 (HOP.out.mono HD.out.size) HTC.out HM4.out).mono ?_; rintro e12 W5 ⟨rfl, hd⟩
    replace HD := Lib.hid (HD.out.trans (hd.mono HD.out.size)); clear hd
    go_wp2_with fail
    refine (HLW.out _).mono ?_; rintro e13 _ ⟨rfl, rfl⟩
    rcases HCS.out with ⟨k1, rfl⟩ | ⟨k1, k2, k3⟩ | ⟨k1, k2, k3, k4, rfl⟩
    · have self := beq_self_eq_true YV.toList
      go_wp2_with fail
      go_ret
      exact ⟨rfl, HD.out⟩
    · have self := beq_self_eq_true YV.toList
      go_wp2_with fail
      go_ret
      exact ⟨rfl, HD.out⟩
    · have self := beq_self_eq_true YU.toList
      go_wp2_with fail
      go_ret
      exact ⟨rfl, HD.out⟩
end Go.Proofs.YtbloomegblbpfaaGreatDoor
