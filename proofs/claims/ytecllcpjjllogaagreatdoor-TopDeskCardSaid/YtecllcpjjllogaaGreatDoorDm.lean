import Derived.Test.YtecllcpjjllogaaGreatDoorDq
import Derived.Test.YtecllcpjjllogaaGreatDoorTn
import Derived.Test.YtecllcpjjllogaaGreatDoorRW
/- plain: what outlives a crash -/
set_option linter.all false
set_option maxRecDepth 100000
namespace Go.Proofs.YtecllcpjjllogaaGreatDoor
open Go.RowKit Go.Shelf Pl
/-- a book that changes have made -/
def RH (b : BkT) : Prop := ∃ h, runH newB h = some b
theorem RH.inv {b : BkT} (h : RH b) : BInv b := let ⟨h1, h2⟩ := h; (run_inv h1 new_inv h2).1
theorem RH.step {b b' : BkT} {s : Stp} (h : RH b) (hs : stepM b s = some (0, b')) : RH b' := by
  obtain ⟨l, hl⟩ := h
  refine ⟨l ++ [s], ?_⟩
  rw [runH_app, hl, Option.bind_some]
  show ((stepM b s).bind fun r => if r.1 = 0 then runH r.2 [] else none) = _
  rw [hs, Option.bind_some, if_pos rfl]; rfl
theorem RH.join {b b' : BkT} {i j e : Int} (h : RH b) (hj : mJoin b i j = some (e, b')) : RH b' := by
  obtain ⟨e2, b2, j1, j2, j3, j4⟩ := join_ev h.inv i j
  rw [hj] at j1
  cases j1
  by_cases c : e = 0
  · obtain ⟨x, y, rfl, rfl, _⟩ := j4 c
    exact h.step (s := (true, x, y)) (by unfold stepM; rw [if_pos rfl, hj, c])
  · rw [j3 c]; exact h
theorem RH.cut {b b' : BkT} {i j e : Int} (h : RH b) (hj : mCut b i j = some (e, b')) : RH b' := by
  obtain ⟨e2, b2, j1, j2, j3, j4⟩ := cut_ev h.inv i j
  rw [hj] at j1
  cases j1
  by_cases c : e = 0
  · obtain ⟨x, y, rfl, rfl, _⟩ := j4 c
    exact h.step (s := (false, x, y)) (by unfold stepM; rw [if_neg (show ¬ (false = true) by decide), hj, c])
  · rw [j3 c]; exact h
theorem take_run : ∀ (h : List Stp) (k : Nat) {b b' : BkT}, runH b h = some b' → ∃ b2, runH b (h.take k) = some b2 := fun h k b b' hr => by
  have e : h.take k ++ h.drop k = h := List.take_append_drop k h
  rw [← e, runH_app] at hr
  cases q : runH b (h.take k) with
  | none => rw [q] at hr; cases hr
  | some b2 => exact ⟨b2, rfl⟩
/-- a log cut off anywhere, opened -/
theorem RH.opened {b : BkT} (h : RH b) {n : Nat} (hn : n ≤ b.2.1.size) : ∃ bo : BkT, mOpen (b.2.1.extract 0 n) = some (0, bo.2.2, bo) ∧ RH bo := by
  obtain ⟨l, hl⟩ := h
  obtain ⟨i1, i2, i3⟩ := run_inv l new_inv hl
  have he : b.2.1.data.toList = txtL l := by rw [i3]; rfl
  have hlen : (txtL l).length = b.2.1.size := by rw [← he, bytes_len]
  obtain ⟨k, tl, k1, k2, k3, k4, k5⟩ := torn_split l n (run_okS l new_inv hl) (by omega)
  obtain ⟨bo, hbo⟩ := take_run l k hl
  have hx : (b.2.1.extract 0 n).data.toList = txtL (l.take k) ++ tl := by
    rw [← k2, ← he]
    simp [ByteArray.data_extract]
  have hsz : b.2.1.size ≤ 2000 := by
    have := i1.many1
    have hn0 : newB.2.2 = 0 := rfl
    rw [← hlen, txtL_len]; omega
  exact ⟨bo, open_run hbo k3 hx (by rw [ByteArray.size_extract]; omega), l.take k, hbo⟩
theorem RH.whole {b : BkT} (h : RH b) : mOpen b.2.1 = some (0, b.2.2, b) := let ⟨_, h2⟩ := h; open_whole h2
theorem ans_rh {b b' : BkT} {s a : ByteArray} (h : RH b) (hm : mAns b s = some (a, b')) : RH b' := by
  unfold mAns at hm
  split at hm
  case isFalse => cases hm
  cases e : wdN (wdsB s).tail [] with
  | none => rw [e] at hm; cases hm; exact h
  | some ns =>
    rw [e] at hm
    replace hm : mVerb b ((wdsB s).getD 0 ByteArray.empty) ns = some (a, b') := hm
    unfold mVerb at hm
    cases e2 : vbO ((wdsB s).getD 0 ByteArray.empty) with
    | none => rw [e2] at hm; cases hm; exact h
    | some mk =>
      obtain ⟨m, k⟩ := mk
      rw [e2] at hm
      replace hm : (if ns.length = m then vAct b k ns else some (badS, b)) = some (a, b') := hm
      split at hm
      case isFalse => cases hm; exact h
      unfold vAct at hm
      split at hm
      · obtain ⟨r, hr, hm⟩ := obind hm
        obtain ⟨_, hm⟩ := chkO_some hm
        cases hm; exact h.join (e := r.1) hr
      split at hm
      · obtain ⟨r, hr, hm⟩ := obind hm
        obtain ⟨_, hm⟩ := chkO_some hm
        cases hm; exact h.cut (e := r.1) hr
      split at hm
      · obtain ⟨r, hr, hm⟩ := obind hm
        obtain ⟨_, hm⟩ := chkO_some hm
        cases hm; exact h
      split at hm
      · obtain ⟨r, hr, hm⟩ := obind hm
        obtain ⟨_, hm⟩ := chkO_some hm
        cases hm; exact h
      split at hm
      case isFalse => cases hm
      obtain ⟨r, hr, hm⟩ := obind hm
      obtain ⟨_, hm⟩ := chkO_some hm
      obtain ⟨bo, o1, o2⟩ := h.opened (n := (min (ns.getD 0 0) (b.2.1.size : Int)).toNat) (by omega)
      rw [o1] at hr
      cases hr
      cases hm
      exact o2
theorem runL_rh : ∀ (l : List (List UInt8)) (b b' : BkT) (q : List UInt8), RH b → runL b l = some (q, b') → RH b'
  | [], b, b', q, h, hr => by cases hr; exact h
  | x :: l, b, b', q, h, hr => by
    replace hr : ((mAns b ⟨x.toArray⟩).bind fun r => (runL r.2 l).map fun q => (r.1.data.toList ++ 10 :: q.1, q.2)) = some (q, b') := hr
    obtain ⟨a, a1, hr⟩ := obind hr
    cases e : runL a.2 l with
    | none => rw [e] at hr; cases hr
    | some q2 =>
      rw [e] at hr
      replace hr : some (a.1.data.toList ++ 10 :: q2.1, q2.2) = some (q, b') := hr
      cases hr
      exact runL_rh l a.2 q2.2 q2.1 (ans_rh h (b' := a.2) (a := a.1) a1) e
/-! ### the lines asked for -/
def jnL (i j : Nat) : List UInt8 := [106, 111, 105, 110, 32, dg8 i, 32, dg8 j]
def frL (i j : Nat) : List UInt8 := [102, 97, 114, 32, dg8 i, 32, dg8 j]
def crL : List UInt8 := [99, 114, 97, 115, 104, 32, 57, 57, 57, 57, 57, 57, 57]
def mnL : List UInt8 := [109, 97, 110, 121]
theorem wd_jn : ∀ i, i < 8 → ∀ j, j < 8 → (wdsB ⟨(jnL i j).toArray⟩).map (fun x => x.data.toList) = [[106, 111, 105, 110], [dg8 i], [dg8 j]] := by decide +kernel
theorem wd_fr : ∀ i, i < 8 → ∀ j, j < 8 → (wdsB ⟨(frL i j).toArray⟩).map (fun x => x.data.toList) = [[102, 97, 114], [dg8 i], [dg8 j]] := by decide +kernel
theorem wd_cr : (wdsB ⟨crL.toArray⟩).map (fun x => x.data.toList) = [[99, 114, 97, 115, 104], [57, 57, 57, 57, 57, 57, 57]] := by decide +kernel
theorem no10 : ∀ i, i < 8 → ∀ j, j < 8 → (!(jnL i j).contains 10 && (!(frL i j).contains 10 && (!crL.contains 10 && !mnL.contains 10))) = true := by decide +kernel
theorem not10 {i j : Nat} (hi : i < 8) (hj : j < 8) : ¬ (10 : UInt8) ∈ jnL i j ∧ ¬ (10 : UInt8) ∈ frL i j ∧ ¬ (10 : UInt8) ∈ crL ∧ ¬ (10 : UInt8) ∈ mnL := by
  have h := no10 i hi j hj
  simp only [Bool.and_eq_true, Bool.not_eq_true'] at h
  have key : ∀ l : List UInt8, l.contains 10 = false → ¬ (10 : UInt8) ∈ l := fun l hl hm => by
    rw [List.contains_iff_mem.2 hm] at hl; cases hl
  exact ⟨key _ h.1, key _ h.2.1, key _ h.2.2.1, key _ h.2.2.2⟩
theorem num_dg {i : Nat} (hi : i < 8) : numM ⟨#[dg8 i]⟩ = ((i : Int), true) := by
  rw [← dec_1 (i := i) (by omega)]; exact numM_dec (by omega)
theorem wdN_two {i j : Nat} (hi : i < 8) (hj : j < 8) : wdN [⟨#[dg8 i]⟩, ⟨#[dg8 j]⟩] [] = some [(i : Int), (j : Int)] := by
  have o0 : okW ⟨#[dg8 i]⟩ = true := by unfold okW; rw [num_dg hi]; rfl
  have o1 : okW ⟨#[dg8 j]⟩ = true := by unfold okW; rw [num_dg hj]; rfl
  unfold wdN; rw [if_pos o0, num_dg hi]
  unfold wdN; rw [if_pos o1, num_dg hj]; rfl
theorem ans_jn {b : BkT} {i j : Nat} (hi : i < 8) (hj : j < 8) {r : Int × BkT} (hr : mJoin b i j = some r) : mAns b ⟨(jnL i j).toArray⟩ = some (tld r.1, r.2) := by
  have hw2 := map_bytes (wd_jn i hi j hj)
  have hv : vbO ⟨#[106, 111, 105, 110]⟩ = some (2, 0) := by decide +kernel
  unfold mAns
  rw [if_pos (by show 8 ≤ 100000; omega), hw2]
  show (match wdN [⟨#[dg8 i]⟩, ⟨#[dg8 j]⟩] [] with | none => some (badS, b) | some ns => mVerb b ⟨#[106, 111, 105, 110]⟩ ns) = _
  rw [wdN_two hi hj]
  show mVerb b ⟨#[106, 111, 105, 110]⟩ [(i : Int), (j : Int)] = _
  unfold mVerb
  rw [hv]
  show (if ([(i : Int), (j : Int)] : List Int).length = 2 then vAct b 0 [(i : Int), (j : Int)] else some (badS, b)) = _
  rw [if_pos (show ([(i : Int), (j : Int)] : List Int).length = 2 from rfl)]
  unfold vAct
  rw [if_pos rfl]
  show (mJoin b i j).bind _ = _
  rw [hr, Option.bind_some]
  unfold chkO
  rw [if_pos (mJoin_e hr)]
theorem ans_fr {b : BkT} {i j : Nat} (hi : i < 8) (hj : j < 8) (h : BInv b) : ∃ r, brambleweir_book_Book_Far 300 b.1 i j = some r ∧ mAns b ⟨(frL i j).toArray⟩ = some (farS r, b) := by
  obtain ⟨r, r1, r2, r3, _⟩ := far_tot h (i : Int) (j : Int)
  refine ⟨r, r1, ?_⟩
  have hw2 := map_bytes (wd_fr i hi j hj)
  have hv : vbO ⟨#[102, 97, 114]⟩ = some (2, 2) := by decide +kernel
  unfold mAns
  rw [if_pos (by show 7 ≤ 100000; omega), hw2]
  show (match wdN [⟨#[dg8 i]⟩, ⟨#[dg8 j]⟩] [] with | none => some (badS, b) | some ns => mVerb b ⟨#[102, 97, 114]⟩ ns) = _
  rw [wdN_two hi hj]
  show mVerb b ⟨#[102, 97, 114]⟩ [(i : Int), (j : Int)] = _
  unfold mVerb
  rw [hv]
  show (if ([(i : Int), (j : Int)] : List Int).length = 2 then vAct b 2 [(i : Int), (j : Int)] else some (badS, b)) = _
  rw [if_pos (show ([(i : Int), (j : Int)] : List Int).length = 2 from rfl)]
  unfold vAct
  rw [if_neg (by decide), if_neg (by decide), if_pos rfl]
  show (brambleweir_book_Book_Far 300 b.1 i j).bind _ = _
  rw [r1, Option.bind_some]
  unfold chkO
  rw [if_pos ⟨by rcases r2 with q | q <;> omega, by omega⟩]
theorem dec_9 : dec ((9999999 : Nat) : Int) = ⟨#[57, 57, 57, 57, 57, 57, 57]⟩ := by
  apply ByteArray.ext
  apply Array.toList_inj.1
  rw [dec_list]
  have e1 : Lib.decDigits 9 = [57] := Lib.decDigits_one (by omega)
  have st : ∀ n m : Nat, m = n * 10 + 9 → 10 ≤ m → Lib.decDigits m = Lib.decDigits n ++ [57] := fun n m h h2 => by
    rw [Lib.decDigits, dif_neg (by omega), show m / 10 = n by omega, show m % 10 = 9 by omega]; rfl
  rw [st 999999 9999999 rfl (by omega), st 99999 999999 rfl (by omega), st 9999 99999 rfl (by omega), st 999 9999 rfl (by omega), st 99 999 rfl (by omega), st 9 99 rfl (by omega), e1]; rfl
theorem ans_cr {b : BkT} (h : RH b) : ∃ a, mAns b ⟨crL.toArray⟩ = some (a, b) := by
  have hw2 := map_bytes wd_cr
  have hv : vbO ⟨#[99, 114, 97, 115, 104]⟩ = some (1, 4) := by decide +kernel
  have hn : numM ⟨#[57, 57, 57, 57, 57, 57, 57]⟩ = (((9999999 : Nat) : Int), true) := by rw [← dec_9]; exact numM_dec (by omega)
  have ho : okW ⟨#[57, 57, 57, 57, 57, 57, 57]⟩ = true := by unfold okW; rw [hn]; rfl
  have hd : wdN [⟨#[57, 57, 57, 57, 57, 57, 57]⟩] [] = some [((9999999 : Nat) : Int)] := by unfold wdN; rw [if_pos ho, hn]; rfl
  have hsz := h.inv.ok.2.1
  have hm0 := h.inv.many0
  have hm1 := h.inv.many1
  unfold mAns
  rw [if_pos (by show 13 ≤ 100000; omega), hw2]
  show ∃ a, (match wdN [⟨#[57, 57, 57, 57, 57, 57, 57]⟩] [] with | none => some (badS, b) | some ns => mVerb b ⟨#[99, 114, 97, 115, 104]⟩ ns) = some (a, b)
  rw [hd]
  show ∃ a, mVerb b ⟨#[99, 114, 97, 115, 104]⟩ [((9999999 : Nat) : Int)] = some (a, b)
  unfold mVerb
  rw [hv]
  show ∃ a, (if ([((9999999 : Nat) : Int)] : List Int).length = 1 then vAct b 4 [((9999999 : Nat) : Int)] else some (badS, b)) = some (a, b)
  rw [if_pos (show ([((9999999 : Nat) : Int)] : List Int).length = 1 from rfl)]
  unfold vAct
  rw [if_neg (by decide), if_neg (by decide), if_neg (by decide), if_neg (by decide), if_pos ⟨by show (0 : Int) ≤ ((9999999 : Nat) : Int); omega, by omega⟩]
  have hmn : (min (([((9999999 : Nat) : Int)] : List Int).getD 0 0) (b.2.1.size : Int)).toNat = b.2.1.size := by
    show (min ((9999999 : Nat) : Int) (b.2.1.size : Int)).toNat = b.2.1.size
    omega
  have hex : b.2.1.extract 0 b.2.1.size = b.2.1 := by
    apply bytes_ext
    rw [Lib.extract_data, List.drop_zero, Nat.sub_zero, List.take_of_length_le (by rw [bytes_len]; exact Nat.le_refl _)]
  rw [hmn, hex, h.whole, Option.bind_some]
  unfold chkO
  rw [if_pos ⟨⟨by show (0 : Int) ≤ 0; omega, by show (0 : Int) ≤ 6; omega⟩, hm0, by show b.2.2 ≤ 1000000; omega⟩]
  exact ⟨_, rfl⟩
/-! ### a session and some lines more -/
/-- the last answer behind a session T and the lines ls, the last one x -/
theorem runL_snoc {b b1 : BkT} {q : List UInt8} {l : List (List UInt8)} {x : List UInt8} {a : ByteArray} {b2 : BkT} (h : runL b l = some (q, b1)) (ha : mAns b1 ⟨x.toArray⟩ = some (a, b2)) : runL b (l ++ [x]) = some (q ++ (a.data.toList ++ [10]), b2) := by
  rw [runL_app, h, Option.bind_some]
  show (runL b1 [x]).map _ = _
  show ((mAns b1 ⟨x.toArray⟩).bind fun r => (runL r.2 []).map fun q => (r.1.data.toList ++ 10 :: q.1, q.2)).map _ = _
  rw [ha, Option.bind_some]; rfl
/-- what a text gives whose lines are known -/
theorem mRun_of {t : ByteArray} {l : List (List UInt8)} {q : List UInt8} {b : BkT} (ht : t.size ≤ 3000) (hl : linesR t.data.toList = l) (h : runL newB l = some (q, b)) : mRun t = some ⟨q.toArray⟩ ∧ whole q := by
  obtain ⟨q2, b2, h1, h2, _, _, h5, _⟩ := mRun_tot t ht
  rw [hl, h] at h1
  cases h1
  exact ⟨h2, h5⟩
/-- behind whole lines a line more -/
theorem lines_snoc {T x : List UInt8} (hT : whole T) (hx : ¬ (10 : UInt8) ∈ x) : linesR (T ++ (x ++ [10])) = linesR T ++ [x] ∧ whole (T ++ (x ++ [10])) := by
  refine ⟨?_, .inr ⟨T ++ x, by simp⟩⟩
  rw [lines_app _ _ _ (Nat.le_refl _) hT]
  have : linesR (x ++ 10 :: []) = x :: linesR [] := linesR_row hx
  rw [this]; rfl
end Go.Proofs.YtecllcpjjllogaaGreatDoor
/- the last line of a text -/
set_option linter.all false
set_option maxRecDepth 100000
namespace Go.Proofs.YtecllcpjjllogaaGreatDoor
open Go.RowKit Go.Shelf Pl
theorem bl_at {s : ByteArray} {k : Nat} (hk : k < s.size) : s[k]? = some s[k] := getElem?_pos s k hk
theorem whole_end {t : ByteArray} {k : Nat} (hk : t.size = k + 1) : whole t.data.toList ↔ t[k]'(by omega) = 10 := by
  have hl : t.data.toList.length = k + 1 := by rw [bytes_len, hk]
  have e : t.data.toList = t.data.toList.take k ++ [t[k]'(by omega)] := by
    have h1 : t.data.toList.take (k + 1) = t.data.toList := List.take_of_length_le (by omega)
    have h2 := List.take_succ_eq_append_getElem (l := t.data.toList) (i := k) (by omega)
    rw [h1] at h2
    have : t.data.toList[k]'(by omega) = t[k]'(by omega) := by simp [ByteArray.getElem_eq_getElem_data]
    exact h2.trans (congrArg (fun z => t.data.toList.take k ++ [z]) this)
  constructor
  · rintro (q | ⟨q, hq⟩)
    · rw [q] at hl; simp at hl
    · rw [hq] at e
      have := List.append_inj' e rfl
      have h3 := this.2
      injection h3 with h3
      exact h3.symm
  · intro h
    rw [h] at e
    exact .inr ⟨_, e⟩
set_option maxHeartbeats 4000000 in
theorem lastT_ok (w : World) {s : ByteArray} {n m : Nat} (hs : s.size = n + m + 1) (hmx : s.size ≤ 100000) (hin : ∀ k (h : k < s.size), n ≤ k → k < n + m → s[k] ≠ 10) (h0 : n = 0 ∨ ∃ h : n - 1 < s.size, s[n - 1] = 10) :
    Calls Tryz.prog 7 #[.string s] w fun e w' => e = .returned (.string (s.extract n s.size)) ∧ w = w' := by
  have HI := Lib.hid hin; have H0 := Lib.hid h0; clear hin h0
  go_enter Tryz.func7, Tryz.ntmps7
  have hw1 : wrap64 ((s.size : Int) - 1) = ((n + m : Nat) : Int) := by unfold wrap64; omega
  go_wp2_with fail
  go_loopg [3] (m + 1) (fun gg u3 wr => ∃ j : Nat, u3 = .int .i64 ((n + j : Nat) : Int) ∧ Hid (j ≤ m ∧ gg = j + 1) ∧ wr = w)
  case atStart => exact ⟨m, by go_num, Lib.hid ⟨Nat.le_refl _, rfl⟩, rfl⟩
  case round =>
    obtain ⟨j, rfl, hj, rfl⟩ := hrel
    obtain ⟨hjm, hjg⟩ := hj.out
    cases j with
    | zero =>
      by_cases hn : n = 0
      · have hd := decide_eq_false (show ¬ (0 : Int) < ((n + 0 : Nat) : Int) by omega)
        have hd2 := decide_eq_false (show ¬ ((n + 0 : Nat) : Int) < 0 by omega)
        have hsl : ((n + 0 : Nat) : Int) ≤ (s.size : Int) := by omega
        go_wp2_with fail
        go_ret
        refine ⟨?_, rfl⟩
        rw [hs, show s.extract n (n + m + 1) = s.extract 0 (m + 1) by rw [hn, Nat.zero_add]]
        all_goals rfl
      · obtain ⟨n, rfl⟩ : ∃ q, n = q + 1 := ⟨n - 1, by omega⟩
        have hd := decide_eq_true (show (0 : Int) < ((n + 1 + 0 : Nat) : Int) by omega)
        have hd2 := decide_eq_false (show ¬ ((n + 1 + 0 : Nat) : Int) < 0 by omega)
        have hsl : ((n + 1 + 0 : Nat) : Int) ≤ (s.size : Int) := by omega
        have hns : n < s.size := by omega
        have hw : ((n + 1 + 0 : Nat) : Int) - 1 = (n : Int) := by omega
        have hwj : wrap64 (n : Int) = (n : Int) := by clear hw1; unfold wrap64; omega
        have fx := (bl_at hns)
        have hq : s[n] = 10 := by
          rcases H0.out with q | ⟨q1, q2⟩
          · cases q
          · exact q2
        generalize hck : s[n] = ck at *
        have fxt : ∃ h : n < s.size, s[n] = ck := ⟨hns, hck⟩
        have hqb : ((ck.toNat : Int) != 10) = false := by rw [hq]; rfl
        go_wp2_with fail
        go_ret
        refine ⟨?_, rfl⟩
        rw [hs]
        all_goals rfl
    | succ j =>
      have hd := decide_eq_true (show (0 : Int) < ((n + (j + 1) : Nat) : Int) by omega)
      have hns : n + j < s.size := by omega
      have hw : ((n + (j + 1) : Nat) : Int) - 1 = ((n + j : Nat) : Int) := by omega
      have hwj : wrap64 ((n + j : Nat) : Int) = ((n + j : Nat) : Int) := by unfold wrap64; omega
      have fx := (bl_at hns)
      have hq : s[n + j] ≠ 10 := HI.out _ hns (by omega) (by omega)
      generalize hck : s[n + j] = ck at *
      have fxt : ∃ h : n + j < s.size, s[n + j] = ck := ⟨hns, hck⟩
      have hqb : ((ck.toNat : Int) != 10) = true := by
        rw [bne_iff_ne]; intro e
        exact hq (UInt8.toNat_inj.1 (by show ck.toNat = 10; omega))
      go_wp2_with fail
      go_roundg (j + 1)
      case measure => omega
      case rel => exact ⟨j, by go_num, Lib.hid ⟨by omega, rfl⟩, rfl⟩
end Go.Proofs.YtecllcpjjllogaaGreatDoor
/- DeskKeeps -/
set_option linter.all false
set_option maxRecDepth 100000
namespace Go.Proofs.YtecllcpjjllogaaGreatDoor
open Go.RowKit Go.Shelf Pl
attribute [local go_sem] Oper.semAt_some
/-- an answer, its line's end behind it -/
def nlB (a : ByteArray) : ByteArray := ⟨(a.data.toList ++ [10]).toArray⟩
theorem nlB_inj {a b : ByteArray} : ((nlB a).toList == (nlB b).toList) = true ↔ a = b := by
  rw [beq_iff_eq, Lib.toList_data, Lib.toList_data]
  constructor
  · intro h
    have h : a.data.toList ++ [10] = b.data.toList ++ [10] := by simpa [nlB] using h
    have := (List.append_inj' h rfl).1
    exact bytes_ext this
  · rintro rfl; rfl
/-- the last answer of whole answers -/
theorem last_parts {p : List UInt8} {a : ByteArray} (hp : whole p) (ha : ¬ (10 : UInt8) ∈ a.data.toList) (hs : p.length + a.size + 1 ≤ 100000) :
    ∀ s : ByteArray, s = ⟨(p ++ (a.data.toList ++ [10])).toArray⟩ → s.size = p.length + a.size + 1 ∧ s.size ≤ 100000 ∧ (∀ k (h : k < s.size), p.length ≤ k → k < p.length + a.size → s[k] ≠ 10) ∧ (p.length = 0 ∨ ∃ h : p.length - 1 < s.size, s[p.length - 1] = 10) ∧ s.extract p.length s.size = nlB a := by
  intro s e
  have hl : s.data.toList = p ++ (a.data.toList ++ [10]) := by rw [e]
  have hal : a.data.toList.length = a.size := bytes_len a
  have hz : s.size = p.length + a.size + 1 := by
    rw [← bytes_len, hl, List.length_append, List.length_append, hal]; simp; omega
  have hat : ∀ k (h : k < s.size), s[k] = s.data.toList[k]'(by rw [bytes_len]; exact h) := fun k h => by simp [ByteArray.getElem_eq_getElem_data]
  refine ⟨hz, by omega, fun k h h1 h2 => ?_, ?_, ?_⟩
  · rw [hat k h]
    have : s.data.toList[k]'(by rw [bytes_len]; exact h) = a.data.toList[k - p.length]'(by omega) := by
      rw [List.getElem_of_eq hl, List.getElem_append_right h1, List.getElem_append_left (by omega)]
    rw [this]
    intro q
    exact ha (by rw [← q]; exact List.getElem_mem _)
  · rcases hp with q | ⟨q, hq⟩
    · exact .inl (by rw [q]; rfl)
    · have hpl : p.length = q.length + 1 := by rw [hq]; simp
      refine .inr ⟨by omega, ?_⟩
      rw [hat _ (by omega)]
      have : s.data.toList[p.length - 1]'(by rw [bytes_len]; omega) = p[p.length - 1]'(by omega) := by
        rw [List.getElem_of_eq hl, List.getElem_append_left (by omega)]
      rw [this, List.getElem_of_eq hq, List.getElem_append_right (by omega)]
      have : p.length - 1 - q.length = 0 := by omega
      simp [this]
  · apply bytes_ext
    rw [Lib.extract_data, hl]
    show _ = a.data.toList ++ [10]
    rw [List.drop_left' rfl, List.take_of_length_le]
    rw [List.length_append, hal]; simp; omega
/-- the line of a call, as the law puts it together -/
def cL (hd : List UInt8) (i j : Nat) : ByteArray := (((⟨hd.toArray⟩ ++ dec (i : Int)) ++ (⟨#[32]⟩ : ByteArray)) ++ dec (j : Int)) ++ (⟨#[10]⟩ : ByteArray)
theorem cL_data {hd : List UInt8} {i j : Nat} (hi : i < 8) (hj : j < 8) : (cL hd i j).data.toList = (hd ++ [dg8 i, 32, dg8 j]) ++ [10] := by
  unfold cL
  rw [dec_1 (by omega), dec_1 (by omega)]
  simp [ByteArray.data_append]
/-- what a session tells, some lines more behind it -/
structure Sess (t : ByteArray) (q : List UInt8) (b : BkT) : Prop where
  run : runL newB (linesR t.data.toList) = some (q, b)
  tw : whole t.data.toList
  qw : whole q
  ql : q.length ≤ 63000
  rh : RH b
theorem sess_of {t : ByteArray} (ht : t.size ≤ 3000) (hw : whole t.data.toList) : ∃ q b, Sess t q b := by
  obtain ⟨q, b, h1, h2, h3, h4, h5, h6⟩ := mRun_tot t ht
  exact ⟨q, b, h1, hw, h5, h6, runL_rh _ _ _ _ ⟨[], rfl⟩ h1⟩
theorem Sess.tells {t : ByteArray} {q : List UInt8} {b : BkT} (h : Sess t q b) (ht : t.size ≤ 3000) : mRun t = some ⟨q.toArray⟩ := by
  exact (mRun_of ht rfl h.run).1
theorem Sess.next {t x : ByteArray} {q l : List UInt8} {b b' : BkT} {a : ByteArray} (h : Sess t q b) (hx : x.data.toList = l ++ [10]) (hn : ¬ (10 : UInt8) ∈ l) (hs : (t ++ x).size ≤ 3000) (ha : mAns b ⟨l.toArray⟩ = some (a, b')) :
    Sess (t ++ x) (q ++ (a.data.toList ++ [10])) b' := by
  have hd : (t ++ x).data.toList = t.data.toList ++ (l ++ [10]) := by rw [ByteArray.data_append, Array.toList_append, hx]
  obtain ⟨l1, l2⟩ := lines_snoc h.tw hn
  have hr := runL_snoc h.run ha
  have hl : linesR (t ++ x).data.toList = linesR t.data.toList ++ [l] := by rw [hd, l1]
  obtain ⟨q2, b2, h1, h2, h3, h4, h5, h6⟩ := mRun_tot (t ++ x) hs
  rw [hl, hr] at h1
  cases h1
  exact ⟨by rw [hl, hr], by rw [hd]; exact l2, h5, h6, ans_rh h.rh ha⟩
theorem ans_no10 {b b' : BkT} {s a : ByteArray} (h : RH b) (hs : s.size ≤ 100000) (ha : mAns b s = some (a, b')) : ¬ (10 : UInt8) ∈ a.data.toList ∧ a.size ≤ 20 := by
  obtain ⟨a2, b2, h1, _, h3⟩ := ans_tot h.inv hs
  rw [ha] at h1; cases h1
  exact ⟨h3.2.1, h3.1⟩
end Go.Proofs.YtecllcpjjllogaaGreatDoor
