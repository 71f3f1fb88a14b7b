import Derived.Test.YtecllcpjjllogaaGreatDoorDm
/- TopDesk -/
set_option linter.all false
set_option maxRecDepth 100000
namespace Go.Proofs.YtecllcpjjllogaaGreatDoor
open Go.RowKit Go.Shelf Pl
attribute [local go_sem] Oper.semAt_some
def crB : ByteArray := ⟨#[99, 114, 97, 115, 104, 32, 57, 57, 57, 57, 57, 57, 57, 10]⟩
def mnB : ByteArray := ⟨#[109, 97, 110, 121, 10]⟩
/-- what TopDesk sees: the four answers -/
theorem topdesk_ev {t : ByteArray} {i j : Nat} (ht : t.size ≤ 2900) (hw : whole t.data.toList) (hi : i < 8) (hj : j < 8) :
    ∃ (q q2 : List UInt8) (u v : ByteArray), mRun (t ++ cL [102, 97, 114, 32] i j) = some ⟨(q ++ (u.data.toList ++ [10])).toArray⟩ ∧ mRun ((t ++ ⟨#[99, 114, 97, 115, 104, 32, 57, 57, 57, 57, 57, 57, 57, 10]⟩) ++ cL [102, 97, 114, 32] i j) = some ⟨(q2 ++ (u.data.toList ++ [10])).toArray⟩ ∧
      mRun (t ++ ⟨#[109, 97, 110, 121, 10]⟩) = some ⟨(q ++ (v.data.toList ++ [10])).toArray⟩ ∧ mRun (t ++ ⟨#[99, 114, 97, 115, 104, 32, 57, 57, 57, 57, 57, 57, 57, 10, 109, 97, 110, 121, 10]⟩) = some ⟨(q2 ++ (v.data.toList ++ [10])).toArray⟩ ∧
      (whole q ∧ whole q2) ∧ (q.length ≤ 63000 ∧ q2.length ≤ 63000) ∧ ((¬ (10 : UInt8) ∈ u.data.toList ∧ u.size ≤ 20) ∧ (¬ (10 : UInt8) ∈ v.data.toList ∧ v.size ≤ 20)) ∧ 1 < (nlB u).size ∧ (nlB u).size ≤ 100 := by
  obtain ⟨q, b, S⟩ := sess_of (t := t) (by omega) hw
  obtain ⟨n1, n2, n3, n4⟩ := not10 hi hj
  have dF := cL_data (hd := [102, 97, 114, 32]) hi hj
  have zF : (cL [102, 97, 114, 32] i j).size = 8 := by rw [← bytes_len, dF]; rfl
  obtain ⟨r, r1, r2⟩ := ans_fr hi hj S.rh.inv
  have SF := S.next (l := frL i j) dF n2 (by rw [ByteArray.size_append]; omega) r2
  obtain ⟨ac, hac⟩ := ans_cr S.rh
  have hcz : (⟨#[99, 114, 97, 115, 104, 32, 57, 57, 57, 57, 57, 57, 57, 10]⟩ : ByteArray).size = 14 := rfl
  have hmz : (⟨#[109, 97, 110, 121, 10]⟩ : ByteArray).size = 5 := rfl
  have SC := S.next (x := ⟨#[99, 114, 97, 115, 104, 32, 57, 57, 57, 57, 57, 57, 57, 10]⟩) (l := crL) rfl n3 (by rw [ByteArray.size_append, hcz]; omega) hac
  have SCF := SC.next (l := frL i j) dF n2 (by rw [ByteArray.size_append, ByteArray.size_append, hcz]; omega) r2
  have am := ans_many S.rh.inv
  have SM := S.next (x := ⟨#[109, 97, 110, 121, 10]⟩) (l := mnL) rfl n4 (by rw [ByteArray.size_append, hmz]; omega) am
  have SCM := SC.next (x := ⟨#[109, 97, 110, 121, 10]⟩) (l := mnL) rfl n4 (by rw [ByteArray.size_append, ByteArray.size_append, hcz, hmz]; omega) am
  have he : t ++ ⟨#[99, 114, 97, 115, 104, 32, 57, 57, 57, 57, 57, 57, 57, 10, 109, 97, 110, 121, 10]⟩ = (t ++ ⟨#[99, 114, 97, 115, 104, 32, 57, 57, 57, 57, 57, 57, 57, 10]⟩) ++ ⟨#[109, 97, 110, 121, 10]⟩ := by
    rw [ByteArray.append_assoc]; rfl
  obtain ⟨_, _, hh, _, ok⟩ := ans_tot S.rh.inv (s := ⟨(frL i j).toArray⟩) (by show 7 ≤ 100000; omega)
  rw [r2] at hh; cases hh
  have hnl : (nlB (farS r)).size = (farS r).size + 1 := by
    rw [← bytes_len]
    show ((farS r).data.toList ++ [10]).length = _
    rw [List.length_append, bytes_len]; rfl
  refine ⟨q, _, farS r, _, SF.tells (by rw [ByteArray.size_append]; omega), SCF.tells (by rw [ByteArray.size_append, ByteArray.size_append, hcz]; omega), SM.tells (by rw [ByteArray.size_append, hmz]; omega), by rw [he]; exact SCM.tells (by rw [ByteArray.size_append, ByteArray.size_append, hcz, hmz]; omega),
    ⟨S.qw, SC.qw⟩, ⟨S.ql, SC.ql⟩, ⟨ans_no10 S.rh (by show 7 ≤ 100000; omega) r2, ans_no10 S.rh (by show 4 ≤ 100000; omega) am⟩, ?_, ?_⟩
  · rw [hnl]; have := ok.2.2; omega
  · rw [hnl]; have := ok.1; omega
theorem lastT_str (w : World) {s y : ByteArray} {n m : Nat} (hs : s.size = n + m + 1) (hmx : s.size ≤ 100000) (hin : ∀ k (h : k < s.size), n ≤ k → k < n + m → s[k] ≠ 10) (h0 : n = 0 ∨ ∃ h : n - 1 < s.size, s[n - 1] = 10) (hy : s.extract n s.size = y) :
    Calls Tryz.prog 7 #[.string s] w fun e w' => e = .returned (.string y) ∧ w = w' :=
  hy ▸ lastT_ok w hs hmx hin h0
set_option maxHeartbeats 8000000 in
theorem topDesk_any (w : World) (hop : OpB w.heap.size w) (htc : TyCell w) (t : ByteArray) (_ : t.size ≤ maxLen) (i : Int) (_ : (Lit.int .i64 i).wf = true) (j : Int) (_ : (Lit.int .i64 j).wf = true) :
    Calls Tryz.prog 3 #[.string t, .int .i64 i, .int .i64 j] w fun e w' => e = .returned (.bool true) ∧ Below w.heap.size w w' := by
  have HOP := Lib.hid hop; have HTC := Lib.hid htc; clear hop htc
  have hq : ((⟨#[48, 10]⟩ : ByteArray).toList != ([48, 10] : List UInt8)) = false := by decide +kernel
  have HC := Lib.hid (dRun_ok w HOP.out HTC.out fact_many)
  go_enter Tryz.func3, Tryz.ntmps3
  go_wp2_with fail
  refine HC.out.mono ?_; rintro e W1 ⟨rfl, hd⟩
  have HD := Lib.hid hd
  replace HOP := Lib.hid (HOP.out.go hd)
  replace HTC := Lib.hid (HTC.out.go hd); clear hd HC
  by_cases h1 : 2900 < t.size
  · have h1d := decide_eq_true (show (2900 : Int) < (t.size : Int) by omega)
    go_wp2_with fail
    go_ret
    exact ⟨rfl, HD.out⟩
  have h1d := decide_eq_false (show ¬ (2900 : Int) < (t.size : Int) by omega)
  by_cases hz : 0 < t.size
  · have hzd := decide_eq_true (show (0 : Int) < (t.size : Int) by omega)
    obtain ⟨k, hk⟩ : ∃ k, t.size = k + 1 := ⟨t.size - 1, by omega⟩
    have hkt : k < t.size := by omega
    have hwh := whole_end hk
    have hjw : ((t.size : Nat) : Int) - 1 = (k : Int) := by omega
    have hwj : wrap64 (k : Int) = (k : Int) := by unfold wrap64; omega
    have fx := (bl_at hkt)
    generalize hck : t[k] = ck at *
    have fxt : ∃ h : k < t.size, t[k] = ck := ⟨hkt, hck⟩
    by_cases hq10 : ck = 10
    · have hwh := hwh.2 hq10
      have hqb : ((ck.toNat : Int) != 10) = false := by rw [hq10]; rfl
      go_wp2_with fail
      by_cases ci : 0 ≤ i ∧ i ≤ 7
      case neg =>
        refine (intop_dec (decide_eq_false ci) _).mono ?_; rintro e2 _ ⟨rfl, rfl⟩
        go_wp2_with fail
        go_ret
        exact ⟨rfl, HD.out⟩
      refine (intop_dec (decide_eq_true ci) _).mono ?_; rintro e2 _ ⟨rfl, rfl⟩
      go_wp2_with fail
      by_cases cj : 0 ≤ j ∧ j ≤ 7
      case neg =>
        refine (intop_dec (decide_eq_false cj) _).mono ?_; rintro e2 _ ⟨rfl, rfl⟩
        go_wp2_with fail
        go_ret
        exact ⟨rfl, HD.out⟩
      refine (intop_dec (decide_eq_true cj) _).mono ?_; rintro e2 _ ⟨rfl, rfl⟩
      obtain ⟨i, rfl⟩ := Int.eq_ofNat_of_zero_le ci.1
      obtain ⟨j, rfl⟩ := Int.eq_ofNat_of_zero_le cj.1
      go_upto_region 6 with (fail)
      have hi8 : i < 8 := by omega
      have hj8 : j < 8 := by omega
      have ht29 : t.size ≤ 2900 := by omega
      clear ci cj hqb hq10 fx fxt hck hwj hjw hk hkt hzd hz h1d h1
      obtain ⟨q, q2, u, v, m1, m2, m3, m4, ⟨wq, wq2⟩, ⟨lq, lq2⟩, ⟨nu, nv⟩, hu1, hu2⟩ := topdesk_ev ht29 hwh hi8 hj8
      obtain ⟨z1, z2, z3, z4, z5⟩ := last_parts wq nu.1 (by omega) _ rfl
      obtain ⟨y1, y2, y3, y4, y5⟩ := last_parts wq2 nu.1 (by omega) _ rfl
      obtain ⟨x1, x2, x3, x4, x5⟩ := last_parts wq nv.1 (by omega) _ rfl
      obtain ⟨u1, u2, u3, u4, u5⟩ := last_parts wq2 nv.1 (by omega) _ rfl
      have HLA := Lib.hid (fun W => lastT_str W z1 z2 z3 z4 z5)
      have HLU := Lib.hid (fun W => lastT_str W y1 y2 y3 y4 y5)
      have HLV := Lib.hid (fun W => lastT_str W x1 x2 x3 x4 x5)
      have HLW := Lib.hid (fun W => lastT_str W u1 u2 u3 u4 u5)
      clear z1 z2 z3 z4 z5 y1 y2 y3 y4 y5 x1 x2 x3 x4 x5 u1 u2 u3 u4 u5 wq wq2 lq lq2 nu nv
      generalize (⟨(q ++ (u.data.toList ++ [10])).toArray⟩ : ByteArray) = XA at *
      generalize (⟨(q2 ++ (u.data.toList ++ [10])).toArray⟩ : ByteArray) = XU at *
      generalize (⟨(q ++ (v.data.toList ++ [10])).toArray⟩ : ByteArray) = XV at *
      generalize (⟨(q2 ++ (v.data.toList ++ [10])).toArray⟩ : ByteArray) = XW at *
      generalize nlB u = YU at *
      generalize nlB v = YV at *
      clear q q2 u v
      have HM1 := Lib.hid m1; have HM2 := Lib.hid m2; have HM3 := Lib.hid m3; have HM4 := Lib.hid m4; clear m1 m2 m3 m4
      have HDI := Lib.hid (fun W => digits_ok W 1 i (by omega) (by omega))
      have HDJ := Lib.hid (fun W => digits_ok W 1 j (by omega) (by omega))
      have hcF : cL [102, 97, 114, 32] i j = (((⟨#[102, 97, 114, 32]⟩ ++ dec (i : Int)) ++ (⟨#[32]⟩ : ByteArray)) ++ dec (j : Int)) ++ (⟨#[10]⟩ : ByteArray) := rfl
      have zF : (cL [102, 97, 114, 32] i j).size = 8 := by rw [← bytes_len, cL_data hi8 hj8]; rfl
      have zdi : (dec (i : Int)).size = 1 := by rw [dec_1 (by omega)]; rfl
      have zdj : (dec (j : Int)).size = 1 := by rw [dec_1 (by omega)]; rfl
      generalize cL [102, 97, 114, 32] i j = FB at *
      generalize dec (i : Int) = di at *
      generalize dec (j : Int) = dj at *
      have HFB := Lib.hid hcF; clear hcF
      go_wp2_with fail
      refine (HDI.out _).mono ?_; rintro e4 _ ⟨rfl, rfl⟩
      go_wp2_with fail
      refine (HDJ.out _).mono ?_; rintro e5 _ ⟨rfl, rfl⟩
      go_upto_region 7 with (fail)
      rw [← HFB.out]
      clear zdi zdj
      go_wp2_with fail
      refine (dRun_ok W1 (HOP.out.mono HD.out.size) HTC.out HM1.out).mono ?_; rintro er1 W2 ⟨rfl, hd⟩
      replace HOP := Lib.hid (HOP.out.go (hd.mono HD.out.size))
      replace HTC := Lib.hid (HTC.out.go hd)
      replace HD := Lib.hid (HD.out.trans (hd.mono HD.out.size)); clear hd
      go_wp2_with fail
      refine (HLA.out _).mono ?_; rintro er1_ _ ⟨rfl, rfl⟩
      go_wp2_with fail
      refine (dRun_ok W2 (HOP.out.mono HD.out.size) HTC.out HM2.out).mono ?_; rintro er2 W3 ⟨rfl, hd⟩
      replace HOP := Lib.hid (HOP.out.go (hd.mono HD.out.size))
      replace HTC := Lib.hid (HTC.out.go hd)
      replace HD := Lib.hid (HD.out.trans (hd.mono HD.out.size)); clear hd
      go_wp2_with fail
      refine (HLU.out _).mono ?_; rintro er2_ _ ⟨rfl, rfl⟩
      go_wp2_with fail
      refine (dRun_ok W3 (HOP.out.mono HD.out.size) HTC.out HM3.out).mono ?_; rintro er3 W4 ⟨rfl, hd⟩
      replace HOP := Lib.hid (HOP.out.go (hd.mono HD.out.size))
      replace HTC := Lib.hid (HTC.out.go hd)
      replace HD := Lib.hid (HD.out.trans (hd.mono HD.out.size)); clear hd
      go_wp2_with fail
      refine (HLV.out _).mono ?_; rintro er3_ _ ⟨rfl, rfl⟩
      go_wp2_with fail
      refine (dRun_ok W4 (HOP.out.mono HD.out.size) HTC.out HM4.out).mono ?_; rintro er4 W5 ⟨rfl, hd⟩
      replace HOP := Lib.hid (HOP.out.go (hd.mono HD.out.size))
      replace HTC := Lib.hid (HTC.out.go hd)
      replace HD := Lib.hid (HD.out.trans (hd.mono HD.out.size)); clear hd
      go_wp2_with fail
      refine (HLW.out _).mono ?_; rintro er4_ _ ⟨rfl, rfl⟩
      have self := beq_self_eq_true YV.toList
      have self2 := beq_self_eq_true YU.toList
      have hu := decide_eq_true (show (1 : Int) < (YU.size : Int) by omega)
      go_wp2_with fail
      go_ret
      exact ⟨rfl, HD.out⟩
    · have hqb : ((ck.toNat : Int) != 10) = true := by
        rw [bne_iff_ne]; intro e
        exact hq10 (UInt8.toNat_inj.1 (by show ck.toNat = 10; omega))
      clear hwh hq10
      go_wp2_with fail
      go_ret
      exact ⟨rfl, HD.out⟩
  · have hzd := decide_eq_false (show ¬ (0 : Int) < (t.size : Int) by omega)
    have hwh : whole t.data.toList := .inl (List.eq_nil_of_length_eq_zero (by rw [bytes_len]; omega))
    go_wp2_with fail
    by_cases ci : 0 ≤ i ∧ i ≤ 7
    case neg =>
      refine (intop_dec (decide_eq_false ci) _).mono ?_; rintro e2 _ ⟨rfl, rfl⟩
      go_wp2_with fail
      go_ret
      exact ⟨rfl, HD.out⟩
    refine (intop_dec (decide_eq_true ci) _).mono ?_; rintro e2 _ ⟨rfl, rfl⟩
    go_wp2_with fail
    by_cases cj : 0 ≤ j ∧ j ≤ 7
    case neg =>
      refine (intop_dec (decide_eq_false cj) _).mono ?_; rintro e2 _ ⟨rfl, rfl⟩
      go_wp2_with fail
      go_ret
      exact ⟨rfl, HD.out⟩
    refine (intop_dec (decide_eq_true cj) _).mono ?_; rintro e2 _ ⟨rfl, rfl⟩
    obtain ⟨i, rfl⟩ := Int.eq_ofNat_of_zero_le ci.1
    obtain ⟨j, rfl⟩ := Int.eq_ofNat_of_zero_le cj.1
    go_upto_region 6 with (fail)
    have hi8 : i < 8 := by omega
    have hj8 : j < 8 := by omega
    have ht29 : t.size ≤ 2900 := by omega
    clear ci cj hzd hz h1d h1
    obtain ⟨q, q2, u, v, m1, m2, m3, m4, ⟨wq, wq2⟩, ⟨lq, lq2⟩, ⟨nu, nv⟩, hu1, hu2⟩ := topdesk_ev ht29 hwh hi8 hj8
    obtain ⟨z1, z2, z3, z4, z5⟩ := last_parts wq nu.1 (by omega) _ rfl
    obtain ⟨y1, y2, y3, y4, y5⟩ := last_parts wq2 nu.1 (by omega) _ rfl
    obtain ⟨x1, x2, x3, x4, x5⟩ := last_parts wq nv.1 (by omega) _ rfl
    obtain ⟨u1, u2, u3, u4, u5⟩ := last_parts wq2 nv.1 (by omega) _ rfl
    have HLA := Lib.hid (fun W => lastT_str W z1 z2 z3 z4 z5)
    have HLU := Lib.hid (fun W => lastT_str W y1 y2 y3 y4 y5)
    have HLV := Lib.hid (fun W => lastT_str W x1 x2 x3 x4 x5)
    have HLW := Lib.hid (fun W => lastT_str W u1 u2 u3 u4 u5)
    clear z1 z2 z3 z4 z5 y1 y2 y3 y4 y5 x1 x2 x3 x4 x5 u1 u2 u3 u4 u5 wq wq2 lq lq2 nu nv
    generalize (⟨(q ++ (u.data.toList ++ [10])).toArray⟩ : ByteArray) = XA at *
    generalize (⟨(q2 ++ (u.data.toList ++ [10])).toArray⟩ : ByteArray) = XU at *
    generalize (⟨(q ++ (v.data.toList ++ [10])).toArray⟩ : ByteArray) = XV at *
    generalize (⟨(q2 ++ (v.data.toList ++ [10])).toArray⟩ : ByteArray) = XW at *
    generalize nlB u = YU at *
    generalize nlB v = YV at *
    clear q q2 u v
    have HM1 := Lib.hid m1; have HM2 := Lib.hid m2; have HM3 := Lib.hid m3; have HM4 := Lib.hid m4; clear m1 m2 m3 m4
    have HDI := Lib.hid (fun W => digits_ok W 1 i (by omega) (by omega))
    have HDJ := Lib.hid (fun W => digits_ok W 1 j (by omega) (by omega))
    have hcF : cL [102, 97, 114, 32] i j = (((⟨#[102, 97, 114, 32]⟩ ++ dec (i : Int)) ++ (⟨#[32]⟩ : ByteArray)) ++ dec (j : Int)) ++ (⟨#[10]⟩ : ByteArray) := rfl
    have zF : (cL [102, 97, 114, 32] i j).size = 8 := by rw [← bytes_len, cL_data hi8 hj8]; rfl
    have zdi : (dec (i : Int)).size = 1 := by rw [dec_1 (by omega)]; rfl
    have zdj : (dec (j : Int)).size = 1 := by rw [dec_1 (by omega)]; rfl
    generalize cL [102, 97, 114, 32] i j = FB at *
    generalize dec (i : Int) = di at *
    generalize dec (j : Int) = dj at *
    have HFB := Lib.hid hcF; clear hcF
    go_wp2_with fail
    refine (HDI.out _).mono ?_; rintro e4 _ ⟨rfl, rfl⟩
    go_wp2_with fail
    refine (HDJ.out _).mono ?_; rintro e5 _ ⟨rfl, rfl⟩
    go_upto_region 7 with (fail)
    rw [← HFB.out]
    clear zdi zdj
    go_wp2_with fail
    refine (dRun_ok W1 (HOP.out.mono HD.out.size) HTC.out HM1.out).mono ?_; rintro er1 W2 ⟨rfl, hd⟩
    replace HOP := Lib.hid (HOP.out.go (hd.mono HD.out.size))
    replace HTC := Lib.hid (HTC.out.go hd)
    replace HD := Lib.hid (HD.out.trans (hd.mono HD.out.size)); clear hd
    go_wp2_with fail
    refine (HLA.out _).mono ?_; rintro er1_ _ ⟨rfl, rfl⟩
    go_wp2_with fail
    refine (dRun_ok W2 (HOP.out.mono HD.out.size) HTC.out HM2.out).mono ?_; rintro er2 W3 ⟨rfl, hd⟩
    replace HOP := Lib.hid (HOP.out.go (hd.mono HD.out.size))
    replace HTC := Lib.hid (HTC.out.go hd)
    replace HD := Lib.hid (HD.out.trans (hd.mono HD.out.size)); clear hd
    go_wp2_with fail
    refine (HLU.out _).mono ?_; rintro er2_ _ ⟨rfl, rfl⟩
    go_wp2_with fail
    refine (dRun_ok W3 (HOP.out.mono HD.out.size) HTC.out HM3.out).mono ?_; rintro er3 W4 ⟨rfl, hd⟩
    replace HOP := Lib.hid (HOP.out.go (hd.mono HD.out.size))
    replace HTC := Lib.hid (HTC.out.go hd)
    replace HD := Lib.hid (HD.out.trans (hd.mono HD.out.size)); clear hd
    go_wp2_with fail
    refine (HLV.out _).mono ?_; rintro er3_ _ ⟨rfl, rfl⟩
    go_wp2_with fail
    refine (dRun_ok W4 (HOP.out.mono HD.out.size) HTC.out HM4.out).mono ?_; rintro er4 W5 ⟨rfl, hd⟩
    replace HOP := Lib.hid (HOP.out.go (hd.mono HD.out.size))
    replace HTC := Lib.hid (HTC.out.go hd)
    replace HD := Lib.hid (HD.out.trans (hd.mono HD.out.size)); clear hd
    go_wp2_with fail
    refine (HLW.out _).mono ?_; rintro er4_ _ ⟨rfl, rfl⟩
    have self := beq_self_eq_true YV.toList
    have self2 := beq_self_eq_true YU.toList
    have hu := decide_eq_true (show (1 : Int) < (YU.size : Int) by omega)
    go_wp2_with fail
    go_ret
    exact ⟨rfl, HD.out⟩
end Go.Proofs.YtecllcpjjllogaaGreatDoor
