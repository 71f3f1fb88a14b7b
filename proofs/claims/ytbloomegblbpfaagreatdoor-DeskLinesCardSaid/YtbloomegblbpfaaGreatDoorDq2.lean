import Derived.Test.YtbloomegblbpfaaGreatDoorDq
/- DeskLines -/
set_option linter.all false
set_option maxRecDepth 100000
namespace Go.Proofs.YtbloomegblbpfaaGreatDoor
open Go.RowKit Go.Shelf Pl
open Classical in
theorem lines_cnt : ∀ (l cur : List UInt8), ¬ (10 : UInt8) ∈ cur → (lnA cur l).length = l.count 10 + (if whole (cur ++ l) then 0 else 1)
  | [], cur, h => by
    rw [List.append_nil]
    unfold lnA
    by_cases e : cur = []
    · rw [if_pos e, if_pos (.inl e)]; rfl
    · rw [if_neg e, if_neg]
      · rfl
      · rintro (q | ⟨q, hq⟩)
        · exact e q
        · exact h (by rw [hq]; simp)
  | b :: l, cur, h => by
    by_cases e : b = 10
    · subst e
      have i := lines_cnt l [] (by simp)
      rw [List.nil_append] at i
      unfold lnA
      rw [if_pos rfl, List.length_cons, i]
      have hw : whole (cur ++ 10 :: l) ↔ whole l := by
        constructor
        · exact whole_row
        · rintro (q | ⟨q, hq⟩)
          · exact .inr ⟨cur, by rw [q]⟩
          · exact .inr ⟨cur ++ 10 :: q, by rw [hq]; simp⟩
      by_cases c : whole l
      · rw [if_pos c, if_pos (hw.2 c)]; simp
      · rw [if_neg c, if_neg fun q => c (hw.1 q)]; simp
    · have i := lines_cnt l (cur ++ [b]) fun q => by
        rcases List.mem_append.1 q with q | q
        · exact h q
        · exact e (List.mem_singleton.1 q).symm
      unfold lnA
      rw [if_neg e, i, List.count_cons]
      have hb : (b == 10) = false := beq_eq_false_iff_ne.2 e
      rw [hb]; simp
theorem whole_last {t : ByteArray} {k : Nat} (hk : t.size = k + 1) : whole t.data.toList ↔ t[k]'(by omega) = 10 := by
  have hl : t.data.toList.length = k + 1 := by rw [bytes_len, hk]
  have e : t.data.toList = t.data.toList.take k ++ [t[k]'(by omega)] := by
    have h1 : t.data.toList.take (k + 1) = t.data.toList := List.take_of_length_le (by omega)
    have h2 := List.take_succ_eq_append_getElem (l := t.data.toList) (i := k) (by omega)
    rw [h1] at h2
    have : t.data.toList[k]'(by omega) = t[k]'(by omega) := by simp [ByteArray.getElem_eq_getElem_data]
    exact h2.trans (congrArg (fun z => t.data.toList.take k ++ [z]) this)
  constructor
  · rintro (q | ⟨q, hq⟩)
    · rw [q] at hl; simp at hl
    · rw [hq] at e
      have := List.append_inj' e rfl
      have h3 := this.2
      injection h3 with h3
      exact h3.symm
  · intro h
    rw [h] at e
    exact .inr ⟨_, e⟩
open Classical in
/-- how many lines stand before k -/
noncomputable def lcn (t : ByteArray) (k : Nat) : Nat := (t.data.toList.take k).count 10 + (if k = t.size ∧ ¬ whole t.data.toList then 1 else 0)
theorem take_cnt {t : ByteArray} {k : Nat} (hk : k < t.size) : (t.data.toList.take (k + 1)).count 10 = (t.data.toList.take k).count 10 + (if t[k] = 10 then 1 else 0) := by
  have hkl : k < t.data.toList.length := by rw [bytes_len]; exact hk
  rw [List.take_succ_eq_append_getElem hkl, List.count_append]
  congr 1
  have e : t.data.toList[k] = t[k] := by simp [ByteArray.getElem_eq_getElem_data]
  rw [e, List.count_singleton]
  by_cases q : t[k] = 10
  · rw [if_pos (by simp [q]), if_pos q]
  · rw [if_neg (by simp [q]), if_neg q]
theorem lcn_step {t : ByteArray} {k : Nat} (hk : k < t.size) : lcn t (k + 1) = lcn t k + (if t[k] = 10 ∨ k + 1 = t.size then 1 else 0) := by
  unfold lcn
  rw [take_cnt hk]
  have hne : ¬ (k = t.size) := by omega
  by_cases e : k + 1 = t.size
  · have hw := whole_last (t := t) (k := k) e.symm
    by_cases q : t[k] = 10
    · have hwt := hw.2 q
      simp [hne, q, e, hwt]
    · have hwf : ¬ whole t.data.toList := fun c => q (hw.1 c)
      simp [hne, q, e, hwf]
  · by_cases q : t[k] = 10
    · simp [hne, q, e]
    · simp [hne, q, e]
theorem lcn_end (t : ByteArray) : lcn t t.size = (linesR t.data.toList).length := by
  unfold lcn linesR
  rw [lines_cnt _ [] (by simp), List.take_of_length_le (by rw [bytes_len]; exact Nat.le_refl _), List.nil_append]
  by_cases c : whole t.data.toList
  · rw [if_neg (fun q => q.2 c), if_pos c]
  · rw [if_pos ⟨rfl, c⟩, if_neg c]
theorem lcn_le (t : ByteArray) : ∀ k, k ≤ t.size → lcn t k ≤ k + 1 := fun k hk => by
  unfold lcn
  have := List.count_le_length (a := (10 : UInt8)) (l := t.data.toList.take k)
  rw [List.length_take] at this
  split <;> omega
theorem lcn_zero (t : ByteArray) (h : 0 < t.size) : lcn t 0 = 0 := by
  unfold lcn; rw [if_neg (fun q => by omega)]; rfl
theorem lcn_zero' (t : ByteArray) : lcn t 0 = 0 := by
  unfold lcn; rw [if_neg]
  · rfl
  · rintro ⟨h1, h2⟩
    exact h2 (.inl (List.eq_nil_of_length_eq_zero (by rw [bytes_len]; exact h1.symm)))
/-- what the answers of a session are like -/
theorem lines_ev2 {t : ByteArray} (ht : t.size ≤ 3000) : ∃ x : ByteArray, mRun t = some x ∧ x.data.toList.count 10 = (linesR t.data.toList).length ∧ x.size ≤ 63000 ∧ (x.size = 0 ∨ ∃ k, x.size = k + 1 ∧ ∃ h : k < x.size, x[k] = 10) := by
  obtain ⟨q, b, h1, h2, _, h4, h5, h6⟩ := mRun_tot t ht
  refine ⟨⟨q.toArray⟩, h2, h4, h6, ?_⟩
  rcases h5 with rfl | ⟨p, rfl⟩
  · exact .inl rfl
  · have hz : (⟨(p ++ [10]).toArray⟩ : ByteArray).size = p.length + 1 := by show (p ++ [10]).length = _; simp
    refine .inr ⟨p.length, hz, by rw [hz]; omega, ?_⟩
    exact (whole_last (t := ⟨(p ++ [10]).toArray⟩) hz).1 (.inr ⟨p, rfl⟩)
set_option maxHeartbeats 4000000 in
theorem deskLines_any (w : World) (hop : OpB w.heap.size w) (htc : TyCell w) (t : ByteArray) (_ : t.size ≤ maxLen) :
    Calls Tryz.prog 5 #[.string t] w fun e w' => e = .returned (.bool true) ∧ Below w.heap.size w w' := by
  have HOP := Lib.hid hop; have HTC := Lib.hid htc; clear hop htc
  have hq : ((⟨#[111, 107, 10, 98, 97, 100, 10, 98, 97, 100, 10]⟩ : ByteArray).toList != ([111, 107, 10, 98, 97, 100, 10, 98, 97, 100, 10] : List UInt8)) = false := by decide +kernel
  have HC := Lib.hid (dRun_ok w HOP.out HTC.out fact_join)
  go_enter Tryz.func5, Tryz.ntmps5
  go_wp2_with fail
  refine HC.out.mono ?_; rintro e W1 ⟨rfl, hd⟩
  have HD := Lib.hid hd
  replace HOP := Lib.hid (HOP.out.go hd)
  replace HTC := Lib.hid (HTC.out.go hd); clear hd HC
  by_cases h1 : 3000 < t.size
  · have h1d := decide_eq_true (show (3000 : Int) < (t.size : Int) by omega)
    have HR := Lib.hid (dRun_ok (r := longS) W1 (HOP.out.mono HD.out.size) HTC.out (by unfold mRun; rw [if_pos h1]))
    have hl : (longS.toList == ([116, 111, 111, 32, 108, 111, 110, 103, 10] : List UInt8)) = true := by decide +kernel
    go_wp2_with fail
    refine HR.out.mono ?_; rintro e W2 ⟨rfl, hd⟩
    replace HD := Lib.hid (HD.out.trans (hd.mono HD.out.size)); clear hd HR
    go_wp2_with fail
    go_ret
    exact ⟨rfl, HD.out⟩
  have h1d := decide_eq_false (show ¬ (3000 : Int) < (t.size : Int) by omega)
  have ht3 : t.size ≤ 3000 := by omega
  obtain ⟨x, x1, x2, x3, x4⟩ := lines_ev2 ht3
  have HR := Lib.hid (dRun_ok W1 (HOP.out.mono HD.out.size) HTC.out x1)
  have HX2 := Lib.hid x2; have HX3 := Lib.hid x3; have HX4 := Lib.hid x4
  clear x1 x2 x3 x4 h1
  go_wp2_with fail
  refine HR.out.mono ?_; rintro e W2 ⟨rfl, hd⟩
  replace HD := Lib.hid (HD.out.trans (hd.mono HD.out.size)); clear hd HR
  have hxz := HX3.out
  go_wp2_with fail
  go_loopg [5, 6] (t.size + 1) (fun gg u5 u6 wr => ∃ k : Nat, u6 = .int .i64 (k : Int) ∧ u5 = .int .i64 ((lcn t k : Nat) : Int) ∧ Hid (k ≤ t.size ∧ gg = t.size + 1 - k) ∧ wr = W2)
  case atStart => exact ⟨0, rfl, by rw [lcn_zero']; rfl, Lib.hid ⟨by omega, by omega⟩, rfl⟩
  case round =>
    obtain ⟨k, rfl, rfl, hk, rfl⟩ := hrel
    obtain ⟨hkt, hkg⟩ := hk.out
    by_cases hc : k < t.size
    · have hcd : (k : Int) < (t.size : Int) := by omega
      have fx0 : t[k]? = some t[k] := getElem?_pos t k hc
      have hst := lcn_step hc
      have hle := lcn_le t k hkt
      generalize hcn : lcn t k = cn at *
      generalize hck : t[k] = ck at *
      have fxt : ∃ h : k < t.size, t[k] = ck := ⟨hc, hck⟩
      have HST := Lib.hid hst; clear hst
      by_cases q : ck = 10
      · have hqb : ((ck.toNat : Int) == 10) = true := by rw [q]; rfl
        have HQ := Lib.hid q; clear q
        go_wp2_with fail
        go_roundg (t.size + 1 - (k + 1))
        case measure => omega
        case rel => exact ⟨k + 1, by go_num, by rw [HST.out, if_pos (.inl HQ.out)]; go_num, Lib.hid ⟨by omega, by omega⟩, rfl⟩
      · have hqb : ((ck.toNat : Int) == 10) = false := by
          rw [beq_eq_false_iff_ne]; intro e
          exact q (UInt8.toNat_inj.1 (by show ck.toNat = 10; omega))
        have hw1 : wrap64 ((t.size : Int) - 1) = (t.size : Int) - 1 := by unfold wrap64; omega
        by_cases q2 : k + 1 = t.size
        · have hqe : ((k : Int) == (t.size : Int) - 1) = true := by rw [beq_iff_eq]; omega
          have HQ := Lib.hid q2; clear q q2
          go_wp2_with fail
          go_roundg (t.size + 1 - (k + 1))
          case measure => omega
          case rel => exact ⟨k + 1, by go_num, by rw [HST.out, if_pos (.inr HQ.out)]; go_num, Lib.hid ⟨by omega, by omega⟩, rfl⟩
        · have hqe : ((k : Int) == (t.size : Int) - 1) = false := by rw [beq_eq_false_iff_ne]; omega
          have HQ := Lib.hid (And.intro q q2); clear q q2
          go_wp2_with fail
          go_roundg (t.size + 1 - (k + 1))
          case measure => omega
          case rel => exact ⟨k + 1, by go_num, by rw [HST.out, if_neg (fun c => c.elim HQ.out.1 HQ.out.2), Nat.add_zero], Lib.hid ⟨by omega, by omega⟩, rfl⟩
    · have hke : k = t.size := by omega
      have hcd := decide_eq_false (show ¬ (k : Int) < (t.size : Int) by omega)
      have hfin : lcn t k = x.data.toList.count 10 := by rw [hke, lcn_end, HX2.out]
      rw [hfin]
      generalize hcx : x.data.toList.count 10 = cx at *
      have HCX := Lib.hid hcx
      clear hfin hcx hkt hkg hk hke HX2
      go_wp2_with fail
      go_loopg [7, 8] (x.size + 1) (fun gg u7 u8 wr' => ∃ j : Nat, u8 = .int .i64 (j : Int) ∧ u7 = .int .i64 (((x.data.toList.take j).count 10 : Nat) : Int) ∧ Hid (j ≤ x.size ∧ gg = x.size + 1 - j) ∧ wr' = wr)
      case atStart => exact ⟨0, rfl, by rw [List.take_zero]; rfl, Lib.hid ⟨by omega, by omega⟩, rfl⟩
      case round =>
        obtain ⟨j, rfl, rfl, hj, rfl⟩ := hrel
        obtain ⟨hjt, hjg⟩ := hj.out
        by_cases hc2 : j < x.size
        · have hcd2 : (j : Int) < (x.size : Int) := by omega
          have fx0 : x[j]? = some x[j] := getElem?_pos x j hc2
          have hst := take_cnt hc2
          have hle : (x.data.toList.take j).count 10 ≤ j := by
            have := List.count_le_length (a := (10 : UInt8)) (l := x.data.toList.take j)
            rw [List.length_take] at this; omega
          generalize hcn : (x.data.toList.take j).count 10 = cn at *
          generalize hck : x[j] = ck at *
          have fxt : ∃ h : j < x.size, x[j] = ck := ⟨hc2, hck⟩
          have HST := Lib.hid hst; clear hst
          by_cases q : ck = 10
          · have hqb : ((ck.toNat : Int) == 10) = true := by rw [q]; rfl
            have HQ := Lib.hid q; clear q
            go_wp2_with fail
            go_roundg (x.size + 1 - (j + 1))
            case measure => omega
            case rel => exact ⟨j + 1, by go_num, by rw [HST.out, if_pos HQ.out]; go_num, Lib.hid ⟨by omega, by omega⟩, rfl⟩
          · have hqb : ((ck.toNat : Int) == 10) = false := by
              rw [beq_eq_false_iff_ne]; intro e
              exact q (UInt8.toNat_inj.1 (by show ck.toNat = 10; omega))
            have HQ := Lib.hid q; clear q
            go_wp2_with fail
            go_roundg (x.size + 1 - (j + 1))
            case measure => omega
            case rel => exact ⟨j + 1, by go_num, by rw [HST.out, if_neg HQ.out, Nat.add_zero], Lib.hid ⟨by omega, by omega⟩, rfl⟩
        · have hje : j = x.size := by omega
          have hcd2 := decide_eq_false (show ¬ (j : Int) < (x.size : Int) by omega)
          have hfin : (x.data.toList.take j).count 10 = cx := by rw [hje, List.take_of_length_le (by rw [bytes_len]; exact Nat.le_refl _), HCX.out]
          rw [hfin]
          have hee : ((cx : Int) == (cx : Int)) = true := beq_self_eq_true _
          clear hfin hjt hjg hj hje
          rcases HX4.out with h0 | ⟨p, h0, hp, hp2⟩
          · have hz0 : ((x.size : Int) == 0) = true := by rw [h0]; rfl
            have H0 := Lib.hid h0; clear h0
            go_wp2_with fail
            go_ret
            exact ⟨rfl, HD.out⟩
          · have hz0 : ((x.size : Int) == 0) = false := by rw [beq_eq_false_iff_ne]; omega
            have hw1 : wrap64 ((x.size : Int) - 1) = (p : Int) := by unfold wrap64; omega
            have hw2 : (x.size : Int) - 1 = (p : Int) := by omega
            have fx0 : x[p]? = some x[p] := getElem?_pos x p hp
            rw [hp2] at fx0
            have H0 := Lib.hid h0
            clear h0
            go_wp2_with fail
            go_ret
            exact ⟨rfl, HD.out⟩
end Go.Proofs.YtbloomegblbpfaaGreatDoor
