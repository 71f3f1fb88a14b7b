import Derived.Test.YtekfgkeimlidhaaGreatDoorOp
import Derived.Test.YtekfgkeimlidhaaGreatDoorBB2
/- plain: what was put down, read again -/
set_option linter.all false
set_option maxRecDepth 100000
namespace Go.Proofs.YtekfgkeimlidhaaGreatDoor
open Go.RowKit Go.Shelf Pl
/-- a change: a line joined (or cut), its two points -/
abbrev Stp := Bool × Nat × Nat
def vrb (s : Stp) : UInt8 := if s.1 = true then 106 else 99
def dg8 (i : Nat) : UInt8 := UInt8.ofNat (48 + i)
def bdyL (s : Stp) : List UInt8 := [vrb s, 32, dg8 s.2.1, 32, dg8 s.2.2]
def sumS (s : Stp) : Nat := bsm (bdyL s) 0 % 9973
def lnL (s : Stp) : List UInt8 := bdyL s ++ [32, dg8 (sumS s / 100), dg8 (sumS s / 10 % 10), dg8 (sumS s % 10)]
def rowL (s : Stp) : List UInt8 := lnL s ++ [10]
def okS (s : Stp) : Prop := s.2.1 < 8 ∧ s.2.2 < 8
def stepM (b : BkT) (s : Stp) : Option (Int × BkT) := if s.1 = true then mJoin b s.2.1 s.2.2 else mCut b s.2.1 s.2.2
def chkA (l : List UInt8) (v : Int) : Bool := match Lib.atoiAll l with
  | .ok u => decide (u = v)
  | _ => false
def okLn (s : Stp) : Bool :=
  decide (Lib.lastIndexByte ⟨(lnL s).toArray⟩ 32 = 5) && (chkA ((⟨(lnL s).toArray⟩ : ByteArray).extract 6 9).data.toList (sumS s) && (decide (((⟨(lnL s).toArray⟩ : ByteArray).extract 6 9).data.toList = [dg8 (sumS s / 100), dg8 (sumS s / 10 % 10), dg8 (sumS s % 10)]) &&
  (decide (((⟨(lnL s).toArray⟩ : ByteArray).extract 0 5).data.toList = bdyL s) && (decide ((wdsB ⟨(bdyL s).toArray⟩).map (fun x => x.data.toList) = [[vrb s], [dg8 s.2.1], [dg8 s.2.2]]) &&
  (decide (100 ≤ sumS s) && (decide (sumS s < 1000) && (!(lnL s).contains 10 && (chkA [dg8 s.2.1] s.2.1 && chkA [dg8 s.2.2] s.2.2))))))))
theorem ok_all : ∀ v : Bool, ∀ i : Nat, i < 8 → ∀ j : Nat, j < 8 → okLn (v, i, j) = true := by decide +kernel
structure LnF (s : Stp) : Prop where
  last : Lib.lastIndexByte ⟨(lnL s).toArray⟩ 32 = 5
  num : Lib.atoiAll [dg8 (sumS s / 100), dg8 (sumS s / 10 % 10), dg8 (sumS s % 10)] = .ok (sumS s : Int)
  tl : (⟨(lnL s).toArray⟩ : ByteArray).extract 6 9 = ⟨#[dg8 (sumS s / 100), dg8 (sumS s / 10 % 10), dg8 (sumS s % 10)]⟩
  bd : (⟨(lnL s).toArray⟩ : ByteArray).extract 0 5 = ⟨(bdyL s).toArray⟩
  wd : wdsB ⟨(bdyL s).toArray⟩ = [⟨#[vrb s]⟩, ⟨#[dg8 s.2.1]⟩, ⟨#[dg8 s.2.2]⟩]
  s0 : 100 ≤ sumS s
  s1 : sumS s < 1000
  no : ¬ (10 : UInt8) ∈ lnL s
  n1 : Lib.atoiAll [dg8 s.2.1] = .ok (s.2.1 : Int)
  n2 : Lib.atoiAll [dg8 s.2.2] = .ok (s.2.2 : Int)
theorem chkA_ok {l : List UInt8} {v : Int} (h : chkA l v = true) : Lib.atoiAll l = .ok v := by
  unfold chkA at h
  split at h
  · rename_i u hu; rw [hu, of_decide_eq_true h]
  · cases h
theorem bytes_ext {a b : ByteArray} (h : a.data.toList = b.data.toList) : a = b := by
  apply ByteArray.ext; exact Array.toList_inj.1 h
theorem ln_facts {s : Stp} (hs : okS s) : LnF s := by
  have h := ok_all s.1 s.2.1 hs.1 s.2.2 hs.2
  unfold okLn at h
  simp only [Bool.and_eq_true, decide_eq_true_eq, Bool.not_eq_true'] at h
  obtain ⟨h1, h2, h3, h4, h5, h6, h7, h8, h9, h10⟩ := h
  refine ⟨h1, ?_, bytes_ext (by rw [h3]), bytes_ext (by rw [h4]), ?_, h6, h7, ?_, chkA_ok h9, chkA_ok h10⟩
  · have := chkA_ok h2; rw [h3] at this; exact this
  · have q := congrArg (List.map fun l : List UInt8 => (⟨l.toArray⟩ : ByteArray)) h5
    rw [List.map_map] at q
    have e : ((fun l : List UInt8 => (⟨l.toArray⟩ : ByteArray)) ∘ fun x : ByteArray => x.data.toList) = id := by
      funext x; show (⟨x.data.toList.toArray⟩ : ByteArray) = x; rw [Array.toArray_toList]
    rw [e, List.map_id] at q
    exact q
  · intro hm
    rw [List.contains_iff_mem.2 hm] at h8; cases h8
theorem dec_1 {i : Nat} (h : i < 10) : dec (i : Int) = ⟨#[dg8 i]⟩ := by
  unfold dec Lib.itoa
  rw [if_neg (by omega), Int.toNat_natCast, Lib.decDigits_one h]; rfl
theorem dec_3 {n : Nat} (h0 : 100 ≤ n) (h1 : n < 1000) : dec (n : Int) = ⟨#[dg8 (n / 100), dg8 (n / 10 % 10), dg8 (n % 10)]⟩ := by
  unfold dec Lib.itoa
  rw [if_neg (by omega), Int.toNat_natCast, Lib.decDigits, dif_neg (by omega), Lib.decDigits_two (by omega) (by omega)]
  have e : n / 10 / 10 = n / 100 := by omega
  rw [e]; rfl
theorem num_dec {x : ByteArray} {v : Int} (h : Lib.atoiAll x.data.toList = .ok v) (h0 : 0 ≤ v) (hd : dec v = x) : numM x = (v, true) := by
  unfold numM atoiM
  rw [h]
  dsimp only
  rw [hd, decide_eq_true h0]
  simp
theorem row_text {s : Stp} (hs : okS s) : lineW (dnW ⟨#[vrb s]⟩ [(s.2.1 : Int), (s.2.2 : Int)]) = ⟨(rowL s).toArray⟩ := by
  have F := ln_facts hs
  have hb : dnW ⟨#[vrb s]⟩ [(s.2.1 : Int), (s.2.2 : Int)] = ⟨(bdyL s).toArray⟩ := by
    unfold dnW dnW dnW
    rw [dec_1 (by have := hs.1; omega), dec_1 (by have := hs.2; omega)]
    rfl
  unfold lineW
  rw [hb]
  show ((_ ++ _) ++ dec ((sumS s : Nat) : Int)) ++ _ = _
  rw [dec_3 F.s0 F.s1]
  rfl
theorem mLine_row {b : BkT} {s : Stp} (hb : okB b) (hs : okS s) : mLine b ⟨(lnL s).toArray⟩ = stepM b s := by
  have F := ln_facts hs
  have hsz : (⟨(lnL s).toArray⟩ : ByteArray).size = 9 := rfl
  have hbody : bodyB ⟨(lnL s).toArray⟩ = ⟨(bdyL s).toArray⟩ := by unfold bodyB; rw [F.last]; exact F.bd
  have htail : tailB ⟨(lnL s).toArray⟩ = ⟨#[dg8 (sumS s / 100), dg8 (sumS s / 10 % 10), dg8 (sumS s % 10)]⟩ := by unfold tailB; rw [F.last, hsz]; exact F.tl
  have hnum : numM (tailB ⟨(lnL s).toArray⟩) = ((sumS s : Int), true) := by rw [htail]; exact num_dec F.num (by omega) (dec_3 F.s0 F.s1)
  have hn1 : numM ⟨#[dg8 s.2.1]⟩ = ((s.2.1 : Int), true) := num_dec F.n1 (by omega) (dec_1 (by have := hs.1; omega))
  have hn2 : numM ⟨#[dg8 s.2.2]⟩ = ((s.2.2 : Int), true) := num_dec F.n2 (by omega) (dec_1 (by have := hs.2; omega))
  have hln : lnNums [⟨#[dg8 s.2.1]⟩, ⟨#[dg8 s.2.2]⟩] [] = some [(s.2.1 : Int), (s.2.2 : Int)] := by
    unfold lnNums
    rw [hn1, if_pos rfl]
    unfold lnNums
    rw [hn2, if_pos rfl]
    rfl
  unfold mLine
  rw [if_pos ⟨hb, by rw [hsz]; omega⟩, F.last, if_neg (by decide), hnum, if_pos rfl, hbody, if_pos (show (sumS s : Int) = ((bsm (bdyL s) 0 % 9973 : Nat) : Int) from rfl), F.wd]
  show lnRes b ⟨#[vrb s]⟩ (lnNums [⟨#[dg8 s.2.1]⟩, ⟨#[dg8 s.2.2]⟩] []) = _
  rw [hln]
  obtain ⟨v, i, j⟩ := s
  cases v
  · show (if ([(i : Int), (j : Int)] : List Int).length = 2 then (if ((⟨#[99]⟩ : ByteArray).toList == ([106] : List UInt8)) = true then mJoin b i j else if ((⟨#[99]⟩ : ByteArray).toList == ([99] : List UInt8)) = true then mCut b i j else some (2, b)) else some (2, b)) = mCut b i j
    rw [if_pos (show ([(i : Int), (j : Int)] : List Int).length = 2 from rfl), if_neg (by decide +kernel), if_pos (by decide +kernel)]
  · show (if ([(i : Int), (j : Int)] : List Int).length = 2 then (if ((⟨#[106]⟩ : ByteArray).toList == ([106] : List UInt8)) = true then mJoin b i j else if ((⟨#[106]⟩ : ByteArray).toList == ([99] : List UInt8)) = true then mCut b i j else some (2, b)) else some (2, b)) = mJoin b i j
    rw [if_pos (show ([(i : Int), (j : Int)] : List Int).length = 2 from rfl), if_pos (by decide +kernel)]
/-! ### a text, row by row -/
def txtL : List Stp → List UInt8
  | [] => []
  | s :: h => rowL s ++ txtL h
theorem txtL_app : ∀ h k : List Stp, txtL (h ++ k) = txtL h ++ txtL k
  | [], k => rfl
  | s :: h, k => by show rowL s ++ txtL (h ++ k) = (rowL s ++ txtL h) ++ txtL k; rw [txtL_app h k, List.append_assoc]
theorem txtL_len : ∀ h : List Stp, (txtL h).length = 10 * h.length
  | [] => rfl
  | s :: h => by show (rowL s ++ txtL h).length = _; rw [List.length_append, txtL_len h, List.length_cons]; show 10 + _ = _; omega
theorem cut_row : ∀ (p t : List UInt8), ¬ (10 : UInt8) ∈ p → cutLn (p ++ 10 :: t) = (p ++ [10], t)
  | [], t, _ => by show cutLn (10 :: t) = _; unfold cutLn; rw [if_pos rfl]; rfl
  | c :: p, t, h => by
    have hc : c ≠ 10 := fun e => h (by rw [e]; exact List.mem_cons_self)
    show cutLn (c :: (p ++ 10 :: t)) = _
    unfold cutLn
    rw [if_neg hc, cut_row p t fun q => h (List.mem_cons_of_mem _ q)]; rfl
theorem cut_torn : ∀ (p : List UInt8), ¬ (10 : UInt8) ∈ p → cutLn p = (p, [])
  | [], _ => rfl
  | c :: p, h => by
    have hc : c ≠ 10 := fun e => h (by rw [e]; exact List.mem_cons_self)
    unfold cutLn
    rw [if_neg hc, cut_torn p fun q => h (List.mem_cons_of_mem _ q)]
theorem suff_row (p : List UInt8) : Lib.hasSuffix (p ++ [10]) [10] = true := by
  unfold Lib.hasSuffix
  exact List.isSuffixOf_iff_suffix.2 ⟨p, rfl⟩
theorem suff_torn {p : List UInt8} (h : ¬ (10 : UInt8) ∈ p) : Lib.hasSuffix p [10] = false := by
  unfold Lib.hasSuffix
  cases e : [(10 : UInt8)].isSuffixOf p
  · rfl
  · obtain ⟨q, hq⟩ := List.isSuffixOf_iff_suffix.1 e
    exact absurd (by rw [← hq]; simp) h
theorem trim_row (p : List UInt8) : Lib.trimSuffix (p ++ [10]) [10] = p := by
  unfold Lib.trimSuffix
  rw [if_pos (suff_row p)]; simp
/-! ### what was done, done again -/
def runH : BkT → List Stp → Option BkT
  | b, [] => some b
  | b, s :: h => (stepM b s).bind fun r => if r.1 = 0 then runH r.2 h else none
theorem runH_app : ∀ (h k : List Stp) (b : BkT), runH b (h ++ k) = (runH b h).bind fun b' => runH b' k
  | [], k, b => rfl
  | s :: h, k, b => by
    show ((stepM b s).bind fun r => if r.1 = 0 then runH r.2 (h ++ k) else none) = ((stepM b s).bind fun r => if r.1 = 0 then runH r.2 h else none).bind _
    cases e : stepM b s with
    | none => rfl
    | some r =>
      show (if r.1 = 0 then runH r.2 (h ++ k) else none) = (if r.1 = 0 then runH r.2 h else none).bind _
      by_cases c : r.1 = 0
      · rw [if_pos c, if_pos c]; exact runH_app h k r.2
      · rw [if_neg c, if_neg c]; rfl
/-- a change that is one -/
theorem step_ev {b : BkT} (h : BInv b) (s : Stp) : ∃ e b', stepM b s = some (e, b') ∧ BInv b' ∧ (e ≠ 0 → b' = b) ∧ (e = 0 → okS s ∧ b'.2.2 = b.2.2 + 1 ∧ b'.2.1 = b.2.1 ++ ⟨(rowL s).toArray⟩) := by
  obtain ⟨v, i, j⟩ := s
  unfold stepM
  cases v
  · rw [if_neg (show ¬ (false = true) by decide)]
    obtain ⟨e, b', h1, h2, h3, h4⟩ := cut_ev h (i : Int) (j : Int)
    refine ⟨e, b', h1, h2, h3, fun he => ?_⟩
    obtain ⟨x, y, q1, q2, q3, q4, _, _, _, q5⟩ := h4 he
    have hx : x = i := by omega
    have hy : y = j := by omega
    subst hx; subst hy
    have hok : okS (false, x, y) := ⟨q3, q4⟩
    exact ⟨hok, by rw [q5]; rfl, by rw [q5]; show b.2.1 ++ lineW (dnW (⟨#[99]⟩ : ByteArray) [(x : Int), (y : Int)]) = _; rw [← row_text hok]; rfl⟩
  · rw [if_pos rfl]
    obtain ⟨e, b', h1, h2, h3, h4⟩ := join_ev h (i : Int) (j : Int)
    refine ⟨e, b', h1, h2, h3, fun he => ?_⟩
    obtain ⟨x, y, q1, q2, q3, q4, _, _, _, q5⟩ := h4 he
    have hx : x = i := by omega
    have hy : y = j := by omega
    subst hx; subst hy
    have hok : okS (true, x, y) := ⟨q3, q4⟩
    exact ⟨hok, by rw [q5]; rfl, by rw [q5]; show b.2.1 ++ lineW (dnW (⟨#[106]⟩ : ByteArray) [(x : Int), (y : Int)]) = _; rw [← row_text hok]; rfl⟩
theorem run_inv : ∀ (h : List Stp) {b b' : BkT}, BInv b → runH b h = some b' → BInv b' ∧ b'.2.2 = b.2.2 + h.length ∧ b'.2.1.data.toList = b.2.1.data.toList ++ txtL h
  | [], b, b', hb, h => by cases h; exact ⟨hb, by simp, by simp [txtL]⟩
  | s :: h, b, b', hb, hr => by
    obtain ⟨e, b1, h1, h2, h3, h4⟩ := step_ev hb s
    unfold runH at hr
    rw [h1, Option.bind_some] at hr
    by_cases c : e = 0
    · rw [if_pos c] at hr
      obtain ⟨k1, k2, k3⟩ := h4 c
      obtain ⟨i1, i2, i3⟩ := run_inv h h2 hr
      refine ⟨i1, by rw [i2, k2, List.length_cons]; omega, ?_⟩
      rw [i3, k3]
      show (b.2.1 ++ (⟨(rowL s).toArray⟩ : ByteArray)).data.toList ++ txtL h = b.2.1.data.toList ++ (rowL s ++ txtL h)
      simp
    · rw [if_neg c] at hr; cases hr
/-- the rows of a log, and what was torn off behind them, read -/
theorem opL_run : ∀ (h : List Stp) (F : Nat) (b b' : BkT) (tl : List UInt8) (t : ByteArray), BInv b → h.length < F → runH b h = some b' → ¬ (10 : UInt8) ∈ tl → t.data.toList = txtL h ++ tl → opL F b t = some (0, b'.2.2, b')
  | [], F, b, b', tl, t, hb, hF, hr, ht, he => by
    cases hr
    cases F with
    | zero => omega
    | succ F =>
      unfold opL
      by_cases c : t.size = 0
      · rw [if_pos c]
      · rw [if_neg c]
        have he' : t.data.toList = tl := he
        have h1 : (lnB t).1.data.toList = tl := by
          show (cutLn t.data.toList).1.toArray.toList = tl
          rw [he', cut_torn tl ht]
        rw [h1, suff_torn ht, if_neg (by decide)]
  | s :: h, F, b, b', tl, t, hb, hF, hr, ht, he => by
    cases F with
    | zero => simp at hF
    | succ F =>
      obtain ⟨e, b1, h1, h2, h3, h4⟩ := step_ev hb s
      unfold runH at hr
      rw [h1, Option.bind_some] at hr
      by_cases c : e = 0
      case neg => rw [if_neg c] at hr; cases hr
      rw [if_pos c] at hr
      obtain ⟨k1, k2, k3⟩ := h4 c
      have F1 := ln_facts k1
      have he' : t.data.toList = lnL s ++ 10 :: (txtL h ++ tl) := by
        rw [he]; show (rowL s ++ txtL h) ++ tl = _; unfold rowL; simp
      have hsz : t.size ≠ 0 := by
        intro q
        have := congrArg List.length he'
        rw [bytes_len, q] at this
        simp at this
      have hc : cutLn t.data.toList = (lnL s ++ [10], txtL h ++ tl) := by rw [he']; exact cut_row _ _ F1.no
      have g1 : (lnB t).1.data.toList = lnL s ++ [10] := by show (cutLn t.data.toList).1.toArray.toList = _; rw [hc]
      have g2 : (lnB t).2.data.toList = txtL h ++ tl := by show (cutLn t.data.toList).2.toArray.toList = _; rw [hc]
      unfold opL
      rw [if_neg hsz, g1, suff_row, if_pos rfl, trim_row, mLine_row hb.ok k1, h1, Option.bind_some, if_pos c]
      rw [List.length_cons] at hF
      exact opL_run h F b1 b' tl _ h2 (by omega) hr ht g2
theorem open_run {h : List Stp} {b : BkT} {tl : List UInt8} {t : ByteArray} (hr : runH newB h = some b) (ht : ¬ (10 : UInt8) ∈ tl) (he : t.data.toList = txtL h ++ tl) (hs : t.size ≤ 2000) : mOpen t = some (0, b.2.2, b) := by
  unfold mOpen
  rw [if_neg (by omega)]
  refine opL_run h (t.size + 1) newB b tl t new_inv ?_ hr ht he
  have := congrArg List.length he
  rw [bytes_len, List.length_append, txtL_len] at this
  omega
end Go.Proofs.YtekfgkeimlidhaaGreatDoor
/- plain: the changes of a book, in their order -/
set_option linter.all false
set_option maxRecDepth 100000
namespace Go.Proofs.YtekfgkeimlidhaaGreatDoor
open Go.RowKit Go.Shelf Pl
def opI (b : BkT) (l : List Int) : Option (Int × BkT) := if l.getD 0 0 = 0 then mJoin b (l.getD 1 0) (l.getD 2 0) else mCut b (l.getD 1 0) (l.getD 2 0)
def stpI (l : List Int) : Stp := (decide (l.getD 0 0 = 0), (l.getD 1 0).toNat, (l.getD 2 0).toNat)
theorem opI_ev {b : BkT} (h : BInv b) (l : List Int) : ∃ e b', opI b l = some (e, b') ∧ BInv b' ∧ (e ≠ 0 → b' = b) ∧ (e = 0 → stepM b (stpI l) = some (0, b')) := by
  unfold opI
  by_cases c : l.getD 0 0 = 0
  · rw [if_pos c]
    obtain ⟨e, b', h1, h2, h3, h4⟩ := join_ev h (l.getD 1 0) (l.getD 2 0)
    refine ⟨e, b', h1, h2, h3, fun he => ?_⟩
    obtain ⟨x, y, q1, q2, _⟩ := h4 he
    unfold stepM stpI
    rw [decide_eq_true c, if_pos rfl]
    dsimp only
    rw [q1, q2] at h1 ⊢
    rw [Int.toNat_natCast, Int.toNat_natCast, h1, he]
  · rw [if_neg c]
    obtain ⟨e, b', h1, h2, h3, h4⟩ := cut_ev h (l.getD 1 0) (l.getD 2 0)
    refine ⟨e, b', h1, h2, h3, fun he => ?_⟩
    obtain ⟨x, y, q1, q2, _⟩ := h4 he
    unfold stepM stpI
    rw [decide_eq_false c, if_neg (show ¬ (false = true) by decide)]
    dsimp only
    rw [q1, q2] at h1 ⊢
    rw [Int.toNat_natCast, Int.toNat_natCast, h1, he]
/-- what was changed, and the book behind it -/
def goH : List (List Int) → BkT → List Stp × BkT
  | [], b => ([], b)
  | l :: ls, b => if l.length = 3 then (match opI b l with
    | some (e, b') => if e = 0 then (stpI l :: (goH ls b').1, (goH ls b').2) else goH ls b
    | none => goH ls b) else goH ls b
theorem goH_ok {l : List Int} {ls : List (List Int)} {b b' : BkT} (h3 : l.length = 3) (h : opI b l = some (0, b')) : goH (l :: ls) b = (stpI l :: (goH ls b').1, (goH ls b').2) := by
  show (if l.length = 3 then (match opI b l with
    | some (e, b') => if e = 0 then (stpI l :: (goH ls b').1, (goH ls b').2) else goH ls b
    | none => goH ls b) else goH ls b) = _
  rw [if_pos h3, h]; rfl
theorem goH_no {l : List Int} {ls : List (List Int)} {b b' : BkT} {e : Int} (h3 : l.length = 3) (h : opI b l = some (e, b')) (he : e ≠ 0) : goH (l :: ls) b = goH ls b := by
  show (if l.length = 3 then (match opI b l with
    | some (e, b') => if e = 0 then (stpI l :: (goH ls b').1, (goH ls b').2) else goH ls b
    | none => goH ls b) else goH ls b) = _
  rw [if_pos h3, h]
  show (if e = 0 then _ else goH ls b) = _
  rw [if_neg he]
theorem goH_skip {l : List Int} {ls : List (List Int)} {b : BkT} (h3 : l.length ≠ 3) : goH (l :: ls) b = goH ls b := by
  show (if l.length = 3 then (match opI b l with
    | some (e, b') => if e = 0 then (stpI l :: (goH ls b').1, (goH ls b').2) else goH ls b
    | none => goH ls b) else goH ls b) = _
  rw [if_neg h3]
theorem goH_run : ∀ (ls : List (List Int)) (b : BkT), BInv b → runH b (goH ls b).1 = some (goH ls b).2 ∧ BInv (goH ls b).2
  | [], b, h => ⟨rfl, h⟩
  | l :: ls, b, h => by
    by_cases h3 : l.length = 3
    · obtain ⟨e, b', h1, h2, h4, h5⟩ := opI_ev h l
      by_cases c : e = 0
      · subst c
        rw [goH_ok h3 h1]
        obtain ⟨i1, i2⟩ := goH_run ls b' h2
        refine ⟨?_, i2⟩
        show ((stepM b (stpI l)).bind fun r => if r.1 = 0 then runH r.2 (goH ls b').1 else none) = _
        rw [h5 rfl, Option.bind_some, if_pos rfl]; exact i1
      · rw [goH_no h3 h1 c]; exact goH_run ls b h
    · rw [goH_skip h3]; exact goH_run ls b h
/-- a whole log, opened -/
theorem open_whole {h : List Stp} {b : BkT} (hr : runH newB h = some b) : mOpen b.2.1 = some (0, b.2.2, b) := by
  obtain ⟨i1, i2, i3⟩ := run_inv h new_inv hr
  have he : b.2.1.data.toList = txtL h ++ [] := by rw [i3, List.append_nil]; rfl
  refine open_run hr (by simp) he ?_
  have := i1.many1
  have hn : newB.2.2 = 0 := rfl
  have hl := congrArg List.length he
  rw [bytes_len, List.append_nil, txtL_len] at hl
  omega
end Go.Proofs.YtekfgkeimlidhaaGreatDoor
