import Derived.Test.YtbloomegblbpfaaGreatDoorDp
/- DeskBegins, DeskLines -/
set_option linter.all false
set_option maxRecDepth 100000
namespace Go.Proofs.YtbloomegblbpfaaGreatDoor
open Go.RowKit Go.Shelf Pl
theorem ans_none {b : BkT} {s : ByteArray} (hs : s.size ≤ 100000) (h : vbO ((wdsB s).getD 0 ByteArray.empty) = none) : mAns b s = some (badS, b) := by
  unfold mAns
  rw [if_pos hs]
  cases wdN (wdsB s).tail [] with
  | none => rfl
  | some ns => show mVerb b _ ns = _; unfold mVerb; rw [h]
theorem ans_many {b : BkT} (h : BInv b) : mAns b ⟨#[109, 97, 110, 121]⟩ = some (dec ((linesOf b.1).length : Int), b) := by
  have hw : (wdsB ⟨#[109, 97, 110, 121]⟩).map (fun x => x.data.toList) = [[109, 97, 110, 121]] := by decide +kernel
  have hw2 : wdsB ⟨#[109, 97, 110, 121]⟩ = [⟨#[109, 97, 110, 121]⟩] := by
    rw [map_bytes hw]; rfl
  have hv : vbO ⟨#[109, 97, 110, 121]⟩ = some (0, 3) := by decide +kernel
  have hle := linesOf_le b.1
  unfold mAns
  rw [if_pos (by decide), hw2]
  show mVerb b ⟨#[109, 97, 110, 121]⟩ [] = _
  unfold mVerb
  rw [hv]
  show (if ([] : List Int).length = 0 then vAct b 3 [] else some (badS, b)) = _
  rw [if_pos (show ([] : List Int).length = 0 from rfl)]
  unfold vAct
  rw [if_neg (by decide), if_neg (by decide), if_neg (by decide), if_pos rfl, lines_ev h, Option.bind_some]
  unfold chkO
  rw [if_pos (by omega)]
theorem fact_many : mRun ⟨#[109, 97, 110, 121]⟩ = some ⟨#[48, 10]⟩ := by
  have h0 : (linesOf newB.1).length = 0 := by decide +kernel
  have h1 : runL newB (linesR [109, 97, 110, 121]) = some ([48, 10], newB) := by
    show runL newB [[109, 97, 110, 121]] = _
    show ((mAns newB ⟨#[109, 97, 110, 121]⟩).bind fun r => (runL r.2 []).map fun q => (r.1.data.toList ++ 10 :: q.1, q.2)) = _
    rw [ans_many new_inv, Option.bind_some, h0]
    show some ((dec ((0 : Nat) : Int)).data.toList ++ 10 :: [], newB) = _
    rw [dec_1 (by omega)]; rfl
  unfold mRun
  rw [if_neg (by decide), run_eq _ newB ⟨#[109, 97, 110, 121]⟩ ⟨#[]⟩ [48, 10] newB h1 (by decide) (by decide)]
  rfl
theorem join_new : mJoin newB 0 1 = some (0, joinB newB 0 1) := by
  unfold mJoin
  rw [if_pos new_inv.ok, if_pos (by decide), if_neg (by decide +kernel), if_neg (by decide)]
theorem fact_join : mRun ⟨#[106, 111, 105, 110, 32, 48, 32, 49, 10, 10, 98]⟩ = some ⟨#[111, 107, 10, 98, 97, 100, 10, 98, 97, 100, 10]⟩ := by
  have hw : (wdsB ⟨#[106, 111, 105, 110, 32, 48, 32, 49]⟩).map (fun x => x.data.toList) = [[106, 111, 105, 110], [48], [49]] := by decide +kernel
  have hw2 : wdsB ⟨#[106, 111, 105, 110, 32, 48, 32, 49]⟩ = [⟨#[106, 111, 105, 110]⟩, ⟨#[48]⟩, ⟨#[49]⟩] := by
    rw [map_bytes hw]; rfl
  have n0 : numM ⟨#[48]⟩ = (((0 : Nat) : Int), true) := num_dec (v := ((0 : Nat) : Int)) (x := ⟨#[48]⟩) (chkA_ok (by decide +kernel)) (by omega) (dec_1 (i := 0) (by omega))
  have n1 : numM ⟨#[49]⟩ = (((1 : Nat) : Int), true) := num_dec (v := ((1 : Nat) : Int)) (x := ⟨#[49]⟩) (chkA_ok (by decide +kernel)) (by omega) (dec_1 (i := 1) (by omega))
  have o0 : okW ⟨#[48]⟩ = true := by unfold okW; rw [n0]; rfl
  have o1 : okW ⟨#[49]⟩ = true := by unfold okW; rw [n1]; rfl
  have hv : vbO ⟨#[106, 111, 105, 110]⟩ = some (2, 0) := by decide +kernel
  have hd : wdN [⟨#[48]⟩, ⟨#[49]⟩] [] = some [0, 1] := by
    unfold wdN; rw [if_pos o0, n0]
    unfold wdN; rw [if_pos o1, n1]; rfl
  have a1 : mAns newB ⟨#[106, 111, 105, 110, 32, 48, 32, 49]⟩ = some (tld 0, joinB newB 0 1) := by
    unfold mAns
    rw [if_pos (by decide), hw2]
    show (match wdN [⟨#[48]⟩, ⟨#[49]⟩] [] with | none => some (badS, newB) | some ns => mVerb newB ⟨#[106, 111, 105, 110]⟩ ns) = _
    rw [hd]
    show mVerb newB ⟨#[106, 111, 105, 110]⟩ [0, 1] = _
    unfold mVerb
    rw [hv]
    show (if ([0, 1] : List Int).length = 2 then vAct newB 0 [0, 1] else some (badS, newB)) = _
    rw [if_pos (show ([0, 1] : List Int).length = 2 from rfl)]
    unfold vAct
    rw [if_pos rfl]
    show (mJoin newB 0 1).bind _ = _
    rw [join_new, Option.bind_some]; rfl
  have a2 : ∀ b : BkT, mAns b ⟨#[]⟩ = some (badS, b) := fun b => ans_none (by decide) (by decide +kernel)
  have a3 : ∀ b : BkT, mAns b ⟨#[98]⟩ = some (badS, b) := fun b => ans_none (by decide) (by decide +kernel)
  have h1 : runL newB (linesR [106, 111, 105, 110, 32, 48, 32, 49, 10, 10, 98]) = some ([111, 107, 10, 98, 97, 100, 10, 98, 97, 100, 10], joinB newB 0 1) := by
    show runL newB [[106, 111, 105, 110, 32, 48, 32, 49], [], [98]] = _
    show ((mAns newB ⟨#[106, 111, 105, 110, 32, 48, 32, 49]⟩).bind fun r => (runL r.2 [[], [98]]).map fun q => (r.1.data.toList ++ 10 :: q.1, q.2)) = _
    rw [a1, Option.bind_some]
    show (((mAns (joinB newB 0 1) ⟨#[]⟩).bind fun r => (runL r.2 [[98]]).map fun q => (r.1.data.toList ++ 10 :: q.1, q.2))).map _ = _
    rw [a2, Option.bind_some]
    show ((((mAns (joinB newB 0 1) ⟨#[98]⟩).bind fun r => (runL r.2 []).map fun q => (r.1.data.toList ++ 10 :: q.1, q.2))).map _).map _ = _
    rw [a3, Option.bind_some]; rfl
  unfold mRun
  rw [if_neg (by decide), run_eq _ newB ⟨#[106, 111, 105, 110, 32, 48, 32, 49, 10, 10, 98]⟩ ⟨#[]⟩ _ _ h1 (by decide) (by decide)]
  rfl
/-- a beginning that ends with a line -/
theorem begins_ev {t : ByteArray} (ht : t.size ≤ 3000) {m : Nat} (hm : m ≤ t.size) (hw : whole (t.data.toList.take m)) : ∃ q1 q2 : List UInt8, mRun (t.extract 0 m) = some ⟨q1.toArray⟩ ∧ mRun t = some ⟨(q1 ++ q2).toArray⟩ := by
  have hx : (t.extract 0 m).data.toList = t.data.toList.take m := by rw [Lib.extract_data, List.drop_zero, Nat.sub_zero]
  obtain ⟨q1, b1, h1, h2, _⟩ := mRun_tot (t.extract 0 m) (by rw [ByteArray.size_extract]; omega)
  obtain ⟨q, b, h3, h4, _⟩ := mRun_tot t ht
  have hl : linesR t.data.toList = linesR (t.data.toList.take m) ++ linesR (t.data.toList.drop m) := by
    rw [← lines_app _ _ _ (Nat.le_refl _) hw, List.take_append_drop]
  rw [hx] at h1
  rw [hl, runL_app, h1, Option.bind_some] at h3
  cases e : runL b1 (linesR (t.data.toList.drop m)) with
  | none => dsimp only at h3; rw [e] at h3; cases h3
  | some q2 =>
    dsimp only at h3
    rw [e] at h3
    have h3 : some (q1 ++ q2.1, q2.2) = some (q, b) := h3
    injection h3 with h3
    injection h3 with h3 _
    exact ⟨q1, q2.1, h2, by rw [h4, h3]⟩
theorem whole_at {t : ByteArray} {m : Nat} (hm : m < t.size) (h : t[m] = 10) : whole (t.data.toList.take (m + 1)) := by
  refine .inr ⟨t.data.toList.take m, ?_⟩
  have hml : m < t.data.toList.length := by rw [bytes_len]; exact hm
  rw [List.take_succ_eq_append_getElem hml]
  have e : t.data.toList[m] = t[m] := by simp [ByteArray.getElem_eq_getElem_data]
  rw [e, h]
theorem by_at2 {s : ByteArray} {k : Nat} (hk : k < s.size) : s[k]? = some s[k] := getElem?_pos s k hk
theorem begins_fin (q1 q2 : List UInt8) : decide ((((⟨q1.toArray⟩ : ByteArray).size : Nat) : Int) ≤ (((⟨(q1 ++ q2).toArray⟩ : ByteArray).size : Nat) : Int)) = true ∧ (((⟨q1.toArray⟩ : ByteArray).size : Nat) : Int) ≤ (((⟨(q1 ++ q2).toArray⟩ : ByteArray).size : Nat) : Int) ∧
    (((⟨(q1 ++ q2).toArray⟩ : ByteArray).extract 0 (⟨q1.toArray⟩ : ByteArray).size).toList == (⟨q1.toArray⟩ : ByteArray).toList) = true := by
  have h1 : (⟨q1.toArray⟩ : ByteArray).size = q1.length := rfl
  have h2 : (⟨(q1 ++ q2).toArray⟩ : ByteArray).size = (q1 ++ q2).length := rfl
  have h3 : (((⟨q1.toArray⟩ : ByteArray).size : Nat) : Int) ≤ (((⟨(q1 ++ q2).toArray⟩ : ByteArray).size : Nat) : Int) := by rw [h1, h2, List.length_append]; omega
  refine ⟨decide_eq_true h3, h3, ?_⟩
  rw [beq_iff_eq, Lib.toList_data, Lib.toList_data, Lib.extract_data, h1]
  show ((q1 ++ q2).drop 0).take (q1.length - 0) = q1
  simp
theorem begins_ev2 {t : ByteArray} (ht : t.size ≤ 3000) {m : Nat} (hm : m ≤ t.size) (hw : whole (t.data.toList.take m)) : ∃ x y : ByteArray, mRun (t.extract 0 m) = some x ∧ mRun t = some y ∧ (x.size : Int) ≤ (y.size : Int) ∧ ((y.extract 0 x.size).toList == x.toList) = true := by
  obtain ⟨q1, q2, h1, h2⟩ := begins_ev ht hm hw
  obtain ⟨_, f2, f3⟩ := begins_fin q1 q2
  exact ⟨_, _, h1, h2, f2, f3⟩
set_option maxHeartbeats 4000000 in
theorem deskBegins_any (w : World) (hop : OpB w.heap.size w) (htc : TyCell w) (t : ByteArray) (_ : t.size ≤ maxLen) (k : Int) (_ : (Lit.int .i64 k).wf = true) :
    Calls Tryz.prog 4 #[.string t, .int .i64 k] w fun e w' => e = .returned (.bool true) ∧ Below w.heap.size w w' := by
  have HOP := Lib.hid hop; have HTC := Lib.hid htc; clear hop htc
  have hq : ((⟨#[48, 10]⟩ : ByteArray).toList != ([48, 10] : List UInt8)) = false := by decide +kernel
  have HC := Lib.hid (dRun_ok w HOP.out HTC.out fact_many)
  go_enter Tryz.func4, Tryz.ntmps4
  go_wp2_with fail
  refine HC.out.mono ?_; rintro e W1 ⟨rfl, hd⟩
  have HD := Lib.hid hd
  replace HOP := Lib.hid (HOP.out.go hd)
  replace HTC := Lib.hid (HTC.out.go hd); clear hd HC
  by_cases h1 : 3000 < t.size
  · have h1d := decide_eq_true (show (3000 : Int) < (t.size : Int) by omega)
    go_wp2_with fail
    go_ret
    exact ⟨rfl, HD.out⟩
  have h1d := decide_eq_false (show ¬ (3000 : Int) < (t.size : Int) by omega)
  by_cases h2 : k < 0
  · have h2d := decide_eq_true h2
    go_wp2_with fail
    go_ret
    exact ⟨rfl, HD.out⟩
  have h2d := decide_eq_false h2
  by_cases h3 : (t.size : Int) < k
  · have h3d := decide_eq_true h3
    go_wp2_with fail
    go_ret
    exact ⟨rfl, HD.out⟩
  have h3d := decide_eq_false h3
  obtain ⟨k, rfl⟩ := Int.eq_ofNat_of_zero_le (show 0 ≤ k by omega)
  have hkt : k ≤ t.size := by omega
  have HT3 := Lib.hid (show t.size ≤ 3000 by omega)
  clear h1 h2 h3
  go_wp2_with fail
  go_loopg [1] (k + 1) (fun gg u1 wr => ∃ m : Nat, u1 = .int .i64 (m : Int) ∧ Hid (m ≤ t.size ∧ gg = m + 1) ∧ wr = W1)
  case atStart => exact ⟨k, rfl, Lib.hid ⟨hkt, rfl⟩, rfl⟩
  case round =>
    obtain ⟨m, rfl, hm, rfl⟩ := hrel
    obtain ⟨hmt, hmg⟩ := hm.out
    have go : ∀ m : Nat, m ≤ t.size → whole (t.data.toList.take m) → ∃ x y : ByteArray, mRun (t.extract 0 m) = some x ∧ mRun t = some y ∧ (x.size : Int) ≤ (y.size : Int) ∧ ((y.extract 0 x.size).toList == x.toList) = true := fun m a b => begins_ev2 HT3.out a b
    by_cases hz : 0 < m
    · obtain ⟨j, rfl⟩ : ∃ j, m = j + 1 := ⟨m - 1, by omega⟩
      have hj : j < t.size := by omega
      have hjw : ((j + 1 : Nat) : Int) - 1 = (j : Int) := by omega
      have hjp : (0 : Int) < ((j + 1 : Nat) : Int) := by omega
      have hsz3 := HT3.out
      have hwj : wrap64 (j : Int) = (j : Int) := by unfold wrap64; omega
      have fx := (by_at2 hj)
      generalize hck : t[j] = ck at *
      have fxt : ∃ h : j < t.size, t[j] = ck := ⟨hj, hck⟩
      by_cases q : ck = 10
      · have hqb : ((ck.toNat : Int) != 10) = false := by rw [q]; rfl
        obtain ⟨x, y, r1, r2, f2, f3⟩ := go (j + 1) hmt (whole_at hj (by rw [hck]; exact q))
        have HQ := Lib.hid (And.intro r1 r2)
        have HR1 := Lib.hid (dRun_ok wr (HOP.out.mono HD.out.size) HTC.out r1)
        have hsl : ((j + 1 : Nat) : Int) ≤ (t.size : Int) := by omega
        clear go hm q r1 r2
        go_wp2_with fail
        refine HR1.out.mono ?_; rintro e W2 ⟨rfl, hd⟩
        have HR2 := Lib.hid (dRun_ok W2 ((HOP.out.go (hd.mono HD.out.size)).mono (Nat.le_trans HD.out.size hd.size)) (HTC.out.go hd) HQ.out.2)
        replace HD := Lib.hid (HD.out.trans (hd.mono HD.out.size)); clear hd HR1
        go_wp2_with fail
        refine HR2.out.mono ?_; rintro e W3 ⟨rfl, hd⟩
        replace HD := Lib.hid (HD.out.trans (hd.mono HD.out.size)); clear hd HR2 HQ
        have f1 := decide_eq_true f2
        go_wp2_with fail
        go_ret
        exact ⟨rfl, HD.out⟩
      · have hqb : ((ck.toNat : Int) != 10) = true := by
          rw [bne_iff_ne]; intro e
          exact q (UInt8.toNat_inj.1 (by show ck.toNat = 10; omega))
        clear go q
        go_wp2_with fail
        go_roundg (j + 1)
        case measure => omega
        case rel => exact ⟨j, by go_num, Lib.hid ⟨by omega, rfl⟩, rfl⟩
    · have hzd := decide_eq_false (show ¬ (0 : Int) < (m : Int) by omega)
      have hsl : (m : Int) ≤ (t.size : Int) := by omega
      obtain ⟨x, y, r1, r2, f2, f3⟩ := go m hmt (.inl (by rw [show m = 0 by omega]; rfl))
      have HQ := Lib.hid (And.intro r1 r2)
      have HR1 := Lib.hid (dRun_ok wr (HOP.out.mono HD.out.size) HTC.out r1)
      clear go hm r1 r2
      go_wp2_with fail
      refine HR1.out.mono ?_; rintro e W2 ⟨rfl, hd⟩
      have HR2 := Lib.hid (dRun_ok W2 ((HOP.out.go (hd.mono HD.out.size)).mono (Nat.le_trans HD.out.size hd.size)) (HTC.out.go hd) HQ.out.2)
      replace HD := Lib.hid (HD.out.trans (hd.mono HD.out.size)); clear hd HR1
      go_wp2_with fail
      refine HR2.out.mono ?_; rintro e W3 ⟨rfl, hd⟩
      replace HD := Lib.hid (HD.out.trans (hd.mono HD.out.size)); clear hd HR2 HQ
      have f1 := decide_eq_true f2
      go_wp2_with fail
      go_ret
      exact ⟨rfl, HD.out⟩
end Go.Proofs.YtbloomegblbpfaaGreatDoor
