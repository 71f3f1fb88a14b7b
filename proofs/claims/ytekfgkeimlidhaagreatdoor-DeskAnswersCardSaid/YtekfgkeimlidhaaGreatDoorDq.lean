import Derived.Test.YtekfgkeimlidhaaGreatDoorD4
import Derived.Test.YtekfgkeimlidhaaGreatDoorOg
import Derived.Test.YtekfgkeimlidhaaGreatDoorDn
import Derived.Test.YtekfgkeimlidhaaGreatDoorBB2
/- plain: a session's answers -/
set_option linter.all false
set_option maxRecDepth 100000
namespace Go.Proofs.YtekfgkeimlidhaaGreatDoor
open Go.RowKit Go.Shelf Pl
/-! ### each verb answers -/
theorem far_tot1 {b : BkT} (h : BInv b) {j : Nat} (hj : j < 8) : ∀ (g : Nat) (S : Nat) (kk : Nat), 9 < (memb S).length + g → S < 256 → kk + g ≤ 400 → ∃ r : Int, brambleweir_book_Book_Far_L1 300 b.1 (j : Int) g S (kk : Int) = some (.inr (r, 0)) ∧ r ≤ 400
  | 0, S, kk, hg, hS, _ => by
    exfalso
    have : (memb S).length ≤ 8 := by
      show ((List.range 16).filter fun i => S.testBit i).length ≤ 8
      rw [show List.range 16 = List.range' 0 8 ++ List.range' 8 8 by decide, List.filter_append]
      have z2 : (List.range' 8 8).filter (fun j => S.testBit j) = [] := by
        rw [List.filter_eq_nil_iff]
        intro j hj
        rw [List.mem_range'_1] at hj
        rw [bit256 hS (by omega)]; simp
      rw [z2, List.append_nil]
      have := List.length_filter_le (fun j => S.testBit j) (List.range' 0 8)
      rw [List.length_range'] at this; exact this
    omega
  | g+1, S, kk, hg, hS, hk => by
    have hh : sHas S (j : Int) = some (S.testBit j) := by unfold sHas; rw [if_pos (by omega), Int.toNat_natCast]
    rw [brambleweir_book_Book_Far_L1_s, hh, Option.bind_some]
    have hml : (memb S).length ≤ 16 := by unfold memb; have := List.length_filter_le (fun i => S.testBit i) (List.range 16); rwa [List.length_range] at this
    by_cases c : S.testBit j = true
    · rw [if_pos c]; exact ⟨(kk : Int), rfl, by omega⟩
    · have he : sEach S = some (memb S) := by unfold sEach; rw [if_pos (by omega)]
      have hx : ∀ p ∈ memb S, p < 8 := fun p hp => by
        have := (mem_memb (by omega)).1 hp
        rcases Nat.lt_or_ge p 8 with q | q
        · exact q
        · rw [bit256 hS q] at this; cases this
      obtain ⟨R, r1, r2, r3⟩ := bf_L2 h 300 (memb S) S hx hS
      rw [if_neg c, he, Option.bind_some, r1, Option.bind_some]
      by_cases e : R = S
      · subst e
        rw [if_pos (by rw [beq_iff_eq])]
        exact ⟨-1, rfl, by omega⟩
      · rw [if_neg (by rw [beq_iff_eq]; exact e), w64n (by omega)]
        have hgrow : (memb S).length + 1 ≤ (memb R).length := by
          have : ∃ q, R.testBit q = true ∧ S.testBit q = false := by
            apply Classical.byContradiction
            intro hn
            refine e (Nat.eq_of_testBit_eq fun q => ?_)
            rw [Bool.eq_iff_iff]
            constructor
            · intro hq
              cases e3 : S.testBit q
              · exact absurd ⟨q, hq, e3⟩ hn
              · rfl
            · intro hq; exact (r3 q).2 (.inl hq)
          obtain ⟨q, q1, q2⟩ := this
          exact memb_grow (by omega) (fun x hx => (r3 x).2 (.inl hx)) q2 q1
        exact far_tot1 h hj g R (kk + 1) (by omega) r2 (by omega)
theorem far_tot {b : BkT} (h : BInv b) (i j : Int) : ∃ r, brambleweir_book_Book_Far 300 b.1 i j = some r ∧ (r.2 = 0 ∨ r.2 = 1) ∧ r.1 ≤ 400 ∧ (r.2 = 0 ↔ (0 ≤ i ∧ i ≤ 7) ∧ (0 ≤ j ∧ j ≤ 7)) := by
  unfold brambleweir_book_Book_Far
  rw [core_All_ev _ _ (by simp) (by simp), Option.bind_some]
  by_cases c : (0 ≤ i ∧ i ≤ 7) ∧ (0 ≤ j ∧ j ≤ 7)
  · have hA : allIn [i, j] 0 7 = true := by simp [allIn]; omega
    rw [if_pos hA]
    obtain ⟨i', rfl⟩ := Int.eq_ofNat_of_zero_le c.1.1
    obtain ⟨j', rfl⟩ := Int.eq_ofNat_of_zero_le c.2.1
    have hw : sWith 0 (i' : Int) = some (2 ^ i') := by unfold sWith; rw [if_pos (by omega), Int.toNat_natCast, Nat.zero_or]
    have hp : 2 ^ i' ≤ 2 ^ 7 := Nat.pow_le_pow_right (by omega) (by omega)
    obtain ⟨r, h1, h2⟩ := far_tot1 h (j := j') (by omega) 300 (2 ^ i') 0 (by omega) (by omega) (by omega)
    rw [hw, Option.bind_some, show brambleweir_book_Book_Far_L1 300 b.1 (j' : Int) 300 (2 ^ i') 0 = _ from h1, Option.bind_some]
    exact ⟨(r, 0), rfl, .inl rfl, by show r ≤ 400; omega, ⟨fun _ => c, fun _ => rfl⟩⟩
  · have hA : allIn [i, j] 0 7 = false := by
      cases e : allIn [i, j] 0 7
      · rfl
      · exfalso; simp [allIn] at e; omega
    rw [if_neg (by rw [hA]; decide)]
    exact ⟨(0, 1), rfl, .inr rfl, by show (0 : Int) ≤ 400; omega, ⟨fun q => absurd q (by decide), fun q => absurd q c⟩⟩
theorem bkE_rng (i j : Int) : 0 ≤ bkE i j ∧ bkE i j ≤ 6 := by
  unfold bkE; split
  · split <;> omega
  · omega
theorem mJoin_e {b : BkT} {i j : Int} {r : Int × BkT} (h : mJoin b i j = some r) : 0 ≤ r.1 ∧ r.1 ≤ 6 := by
  have := bkE_rng i j
  unfold mJoin at h
  split at h
  · have h := (Option.some.inj h).symm; subst h
    split
    · split
      · exact ⟨by show (0 : Int) ≤ 6; omega, by show (6 : Int) ≤ 6; omega⟩
      · split
        · exact ⟨by show (0 : Int) ≤ 4; omega, by show (4 : Int) ≤ 6; omega⟩
        · exact ⟨by show (0 : Int) ≤ 0; omega, by show (0 : Int) ≤ 6; omega⟩
    · exact this
  · cases h
theorem mCut_e {b : BkT} {i j : Int} {r : Int × BkT} (h : mCut b i j = some r) : 0 ≤ r.1 ∧ r.1 ≤ 6 := by
  have := bkE_rng i j
  unfold mCut at h
  split at h
  · have h := (Option.some.inj h).symm; subst h
    split
    · split
      · split
        · exact ⟨by show (0 : Int) ≤ 4; omega, by show (4 : Int) ≤ 6; omega⟩
        · exact ⟨by show (0 : Int) ≤ 0; omega, by show (0 : Int) ≤ 6; omega⟩
      · exact ⟨by show (0 : Int) ≤ 5; omega, by show (5 : Int) ≤ 6; omega⟩
    · exact this
  · cases h
theorem line_tot {b : BkT} (h : BInv b) (l : ByteArray) (hl : l.size < 1000000) : ∃ e b', mLine b l = some (e, b') ∧ BInv b' ∧ 0 ≤ e ∧ e ≤ 6 ∧ (e ≠ 0 → b' = b) ∧ (e = 0 → b'.2.2 = b.2.2 + 1) := by
  have bad : ∀ e : Int, e ≠ 0 → 0 ≤ e → e ≤ 6 → ∃ e' b', some (e, b) = some (e', b') ∧ BInv b' ∧ 0 ≤ e' ∧ e' ≤ 6 ∧ (e' ≠ 0 → b' = b) ∧ (e' = 0 → b'.2.2 = b.2.2 + 1) := fun e he h0 h6 => ⟨e, b, rfl, h, h0, h6, fun _ => rfl, fun q => absurd q he⟩
  have b2 := bad 2 (by decide) (by decide) (by decide)
  have b6 := bad 6 (by decide) (by decide) (by decide)
  unfold mLine
  rw [if_pos ⟨h.ok, hl⟩]
  by_cases c1 : Lib.lastIndexByte l 32 < 0
  · rw [if_pos c1]; exact b2
  rw [if_neg c1]
  by_cases c2 : (numM (tailB l)).2 = true
  case neg => rw [if_neg c2]; exact b2
  rw [if_pos c2]
  by_cases c3 : (numM (tailB l)).1 = ((bsm (bodyB l).data.toList 0 % 9973 : Nat) : Int)
  case neg => rw [if_neg c3]; exact b6
  rw [if_pos c3]
  generalize lnNums (wdsB (bodyB l)).tail [] = ns
  generalize (wdsB (bodyB l)).getD 0 ByteArray.empty = w0
  cases ns with
  | none => exact b2
  | some q =>
    unfold lnRes
    dsimp only
    by_cases c4 : q.length = 2
    case neg => rw [if_neg c4]; exact b2
    rw [if_pos c4]
    by_cases c5 : (w0.toList == ([106] : List UInt8)) = true
    · rw [if_pos c5]
      obtain ⟨e, b', j1, j2, j3, j4⟩ := join_ev h (q.getD 0 0) (q.getD 1 0)
      have := mJoin_e j1
      exact ⟨e, b', j1, j2, this.1, this.2, j3, fun q => by obtain ⟨x, y, _, _, _, _, _, _, _, e5⟩ := j4 q; rw [e5]; rfl⟩
    rw [if_neg c5]
    by_cases c6 : (w0.toList == ([99] : List UInt8)) = true
    · rw [if_pos c6]
      obtain ⟨e, b', j1, j2, j3, j4⟩ := cut_ev h (q.getD 0 0) (q.getD 1 0)
      have := mCut_e j1
      exact ⟨e, b', j1, j2, this.1, this.2, j3, fun q => by obtain ⟨x, y, _, _, _, _, _, _, _, e5⟩ := j4 q; rw [e5]; rfl⟩
    rw [if_neg c6]; exact b2
theorem opL_tot : ∀ (F : Nat) (b : BkT) (t : ByteArray), BInv b → t.size < F → t.size < 1000000 → ∃ e m b', opL F b t = some (e, m, b') ∧ BInv b' ∧ 0 ≤ e ∧ e ≤ 6 ∧ 0 ≤ m ∧ m ≤ 61
  | 0, b, t, _, h, _ => by omega
  | F + 1, b, t, hb, hF, hs => by
    have hm0 := hb.many0
    have hm1 := hb.many1
    unfold opL
    by_cases c : t.size = 0
    · rw [if_pos c]; exact ⟨0, _, b, rfl, hb, by omega, by omega, hm0, by omega⟩
    rw [if_neg c]
    cases c2 : Lib.hasSuffix (lnB t).1.data.toList [10]
    · rw [if_neg (by decide)]; exact ⟨0, _, b, rfl, hb, by omega, by omega, hm0, by omega⟩
    rw [if_pos rfl]
    have hl1 := lnB_1 t
    have hlt : (Lib.trimSuffix (lnB t).1.data.toList [10]).length < 1000000 := by
      have : (Lib.trimSuffix (lnB t).1.data.toList [10]).length ≤ (lnB t).1.data.toList.length := by unfold Lib.trimSuffix; split <;> simp
      rw [bytes_len] at this; omega
    obtain ⟨e, b', h1, h2, h3, h4, h5, h6⟩ := line_tot hb ⟨(Lib.trimSuffix (lnB t).1.data.toList [10]).toArray⟩ hlt
    rw [h1, Option.bind_some]
    by_cases c3 : e = 0
    · rw [if_pos c3]
      have hsm : (lnB t).2.size < t.size := by
        rcases row_or t.data.toList with q | ⟨p, r, q1, q2⟩
        · have hc : cutLn t.data.toList = (t.data.toList, []) := cut_torn _ q
          have g2 : (lnB t).2.data.toList = [] := by show (cutLn t.data.toList).2.toArray.toList = _; rw [hc]
          rw [← bytes_len, g2]; simp; omega
        · have hc : cutLn t.data.toList = (p ++ [10], r) := by rw [q1]; exact cut_row _ _ q2
          have g2 : (lnB t).2.data.toList = r := by show (cutLn t.data.toList).2.toArray.toList = _; rw [hc]
          have := congrArg List.length q1
          rw [bytes_len, List.length_append, List.length_cons] at this
          rw [← bytes_len, g2]; omega
      exact opL_tot F b' _ h2 (by omega) (by omega)
    · rw [if_neg c3]
      have := h2.many0; have := h2.many1
      exact ⟨e, _, b', rfl, h2, h3, h4, by show 0 ≤ b'.2.2 + 1; omega, by show b'.2.2 + 1 ≤ 61; omega⟩
theorem open_tot (t : ByteArray) : ∃ e m b', mOpen t = some (e, m, b') ∧ BInv b' ∧ 0 ≤ e ∧ e ≤ 6 ∧ 0 ≤ m ∧ m ≤ 61 := by
  unfold mOpen
  by_cases c : 2000 < t.size
  · rw [if_pos c]; exact ⟨4, 0, newB, rfl, new_inv, by omega, by omega, by omega, by omega⟩
  · rw [if_neg c]; exact opL_tot _ _ _ new_inv (by omega) (by omega)
/-- an answer: short, no end of a line in it, not empty -/
def okA (a : ByteArray) : Prop := a.size ≤ 20 ∧ ¬ (10 : UInt8) ∈ a.data.toList ∧ 0 < a.size
theorem okA_tld (c : Int) : okA (tld c) := by
  unfold tld okA
  repeat (split; · decide)
  decide
theorem okA_dec {n : Int} (h0 : 0 ≤ n) (h : n ≤ 9999) : okA (dec n) := by
  obtain ⟨m, rfl⟩ := Int.eq_ofNat_of_zero_le h0
  have hs := dec_le h0 (k := 4) (by omega) (by omega)
  refine ⟨by omega, fun q => ?_, ?_⟩
  · rw [dec_list] at q
    have := dec_digs m 10 q
    have e : (10 : UInt8).toNat = 10 := rfl
    omega
  · rw [dec_size _ h0]
    have := Lib.nDigits_pos (m : Int).toNat; omega
theorem okA_fnd {n : Int} (h0 : 0 ≤ n) (h : n ≤ 9999) : okA (fndS n) := by
  obtain ⟨h1, h2, h3⟩ := okA_dec h0 h
  have hs := dec_le h0 (k := 4) (by omega) (by omega)
  have e6 : (⟨#[102, 111, 117, 110, 100, 32]⟩ : ByteArray).size = 6 := rfl
  unfold fndS
  refine ⟨by rw [ByteArray.size_append, e6]; omega, fun q => ?_, by rw [ByteArray.size_append, e6]; omega⟩
  have : (10 : UInt8) ∈ ([102, 111, 117, 110, 100, 32] : List UInt8) ++ (dec n).data.toList := by simpa using q
  rcases List.mem_append.1 this with q | q
  · exact absurd q (by decide)
  · exact h2 q
theorem okA_bad : okA badS := by unfold okA badS; decide
theorem okA_far {r : Int × Int} (h1 : r.1 ≤ 400) : okA (farS r) := by
  unfold farS
  split
  · split
    · unfold okA; decide
    · exact okA_dec (by omega) (by omega)
  · exact okA_tld _
theorem act_tot {b : BkT} (h : BInv b) {k : Nat} {ns : List Int} (hn : 0 ≤ ns.getD 0 0) : ∃ a b', vAct b k ns = some (a, b') ∧ BInv b' ∧ okA a := by
  unfold vAct
  by_cases k0 : k = 0
  · rw [if_pos k0]
    obtain ⟨e, b', j1, j2, _, _⟩ := join_ev h (ns.getD 0 0) (ns.getD 1 0)
    rw [j1, Option.bind_some]
    unfold chkO; rw [if_pos (mJoin_e j1)]
    exact ⟨_, _, rfl, j2, okA_tld _⟩
  rw [if_neg k0]
  by_cases k1 : k = 1
  · rw [if_pos k1]
    obtain ⟨e, b', j1, j2, _, _⟩ := cut_ev h (ns.getD 0 0) (ns.getD 1 0)
    rw [j1, Option.bind_some]
    unfold chkO; rw [if_pos (mCut_e j1)]
    exact ⟨_, _, rfl, j2, okA_tld _⟩
  rw [if_neg k1]
  by_cases k2 : k = 2
  · rw [if_pos k2]
    obtain ⟨r, r1, r2, r3, _⟩ := far_tot h (ns.getD 0 0) (ns.getD 1 0)
    rw [r1, Option.bind_some]
    unfold chkO; rw [if_pos ⟨by rcases r2 with q | q <;> omega, by omega⟩]
    exact ⟨_, _, rfl, h, okA_far r3⟩
  rw [if_neg k2]
  by_cases k3 : k = 3
  · rw [if_pos k3, lines_ev h, Option.bind_some]
    have := linesOf_le b.1
    unfold chkO; rw [if_pos (by omega)]
    exact ⟨_, _, rfl, h, okA_dec (by omega) (by omega)⟩
  rw [if_neg k3, if_pos ⟨hn, by have := h.ok.2.1; omega⟩]
  obtain ⟨e, m, b', o1, o2, o3, o4, o5, o6⟩ := open_tot (b.2.1.extract 0 (min (ns.getD 0 0) (b.2.1.size : Int)).toNat)
  rw [o1, Option.bind_some]
  unfold chkO; rw [if_pos ⟨⟨o3, o4⟩, o5, by show m ≤ 1000000; omega⟩]
  dsimp only
  by_cases c : e = 0
  · rw [if_pos c, if_pos c]; exact ⟨_, _, rfl, o2, okA_fnd o5 (by omega)⟩
  · rw [if_neg c, if_neg c]; exact ⟨_, _, rfl, h, okA_tld _⟩
theorem okW_nn {x : ByteArray} (h : okW x = true) : 0 ≤ (numM x).1 := by
  unfold okW at h
  rw [Bool.and_eq_true] at h
  obtain ⟨n, _, _, e⟩ := numM_is h.1
  omega
theorem wdN_nn : ∀ (l : List ByteArray) (ns r : List Int), wdN l ns = some r → (∀ x ∈ ns, 0 ≤ x) → ∀ x ∈ r, 0 ≤ x
  | [], ns, r, h, hn => by cases h; exact hn
  | x :: l, ns, r, h, hn => by
    unfold wdN at h
    split at h
    · rename_i c
      refine wdN_nn l _ r h fun y hy => ?_
      rcases List.mem_append.1 hy with hy | hy
      · exact hn y hy
      · rw [List.mem_singleton.1 hy]; exact okW_nn c
    · cases h
theorem ans_tot {b : BkT} (h : BInv b) {s : ByteArray} (hs : s.size ≤ 100000) : ∃ a b', mAns b s = some (a, b') ∧ BInv b' ∧ okA a := by
  unfold mAns
  rw [if_pos hs]
  cases e : wdN (wdsB s).tail [] with
  | none => exact ⟨_, _, rfl, h, okA_bad⟩
  | some ns =>
    show ∃ a b', mVerb b _ ns = some (a, b') ∧ _
    unfold mVerb
    cases vbO ((wdsB s).getD 0 ByteArray.empty) with
    | none => exact ⟨_, _, rfl, h, okA_bad⟩
    | some mk =>
      obtain ⟨m, k⟩ := mk
      show ∃ a b', (if ns.length = m then vAct b k ns else some (badS, b)) = some (a, b') ∧ _
      split
      · refine act_tot h ?_
        have hall := wdN_nn _ _ _ e (by simp)
        cases ns with
        | nil => exact Int.le_refl 0
        | cons x l => exact hall x List.mem_cons_self
      · exact ⟨_, _, rfl, h, okA_bad⟩
/-! ### line by line -/
def lnA (cur : List UInt8) : List UInt8 → List (List UInt8)
  | [] => if cur = [] then [] else [cur]
  | b :: l => if b = 10 then cur :: lnA [] l else lnA (cur ++ [b]) l
def linesR (l : List UInt8) : List (List UInt8) := lnA [] l
def runL : BkT → List (List UInt8) → Option (List UInt8 × BkT)
  | b, [] => some ([], b)
  | b, x :: xs => (mAns b ⟨x.toArray⟩).bind fun r => (runL r.2 xs).map fun q => (r.1.data.toList ++ 10 :: q.1, q.2)
theorem lnA_row : ∀ (p t cur : List UInt8), ¬ (10 : UInt8) ∈ p → lnA cur (p ++ 10 :: t) = (cur ++ p) :: linesR t
  | [], t, cur, _ => by show lnA cur (10 :: t) = _; rw [lnA, if_pos rfl, List.append_nil]; rfl
  | b :: p, t, cur, h => by
    have hb : b ≠ 10 := fun e => h (by rw [e]; exact List.mem_cons_self)
    show lnA cur (b :: (p ++ 10 :: t)) = _
    rw [lnA, if_neg hb, lnA_row p t (cur ++ [b]) fun q => h (List.mem_cons_of_mem _ q)]
    simp
theorem lnA_torn : ∀ (p cur : List UInt8), ¬ (10 : UInt8) ∈ p → lnA cur p = if cur ++ p = [] then [] else [cur ++ p]
  | [], cur, _ => by rw [List.append_nil]; rfl
  | b :: p, cur, h => by
    have hb : b ≠ 10 := fun e => h (by rw [e]; exact List.mem_cons_self)
    rw [lnA, if_neg hb, lnA_torn p (cur ++ [b]) fun q => h (List.mem_cons_of_mem _ q)]
    simp
theorem linesR_row {p t : List UInt8} (h : ¬ (10 : UInt8) ∈ p) : linesR (p ++ 10 :: t) = p :: linesR t := by
  unfold linesR; rw [lnA_row p t [] h]; rfl
theorem linesR_torn {p : List UInt8} (h : ¬ (10 : UInt8) ∈ p) (hp : p ≠ []) : linesR p = [p] := by
  unfold linesR; rw [lnA_torn p [] h, if_neg (by simpa using hp)]; rfl
/-- a text of whole lines -/
def whole (l : List UInt8) : Prop := l = [] ∨ ∃ q, l = q ++ [10]
theorem whole_row {p t : List UInt8} (h : whole (p ++ 10 :: t)) : whole t := by
  rcases h with h | ⟨q, h⟩
  · simp at h
  · rcases List.eq_nil_or_concat t with e | ⟨L, c, e⟩
    · exact .inl e
    · refine .inr ⟨L, ?_⟩
      rw [List.concat_eq_append] at e
      subst e
      have := List.append_inj' (show (p ++ 10 :: L) ++ [c] = q ++ [10] by simpa using h) rfl
      rw [this.2]
theorem lines_app : ∀ (n : Nat) (A B : List UInt8), A.length ≤ n → whole A → linesR (A ++ B) = linesR A ++ linesR B
  | n, A, B, hn, hw => by
    rcases row_or A with h | ⟨p, t, h1, h2⟩
    · rcases hw with rfl | ⟨q, rfl⟩
      · rfl
      · exact absurd (by simp) h
    · subst h1
      have : (p ++ 10 :: t) ++ B = p ++ 10 :: (t ++ B) := by simp
      rw [this, linesR_row h2, linesR_row h2, List.cons_append]
      cases n with
      | zero => simp at hn
      | succ n => rw [lines_app n t B (by simp at hn; omega) (whole_row hw)]
theorem runL_app : ∀ (l m : List (List UInt8)) (b : BkT), runL b (l ++ m) = (runL b l).bind fun q => (runL q.2 m).map fun q' => (q.1 ++ q'.1, q'.2)
  | [], m, b => by
    show runL b m = (runL b m).map fun q' => ([] ++ q'.1, q'.2)
    cases runL b m <;> rfl
  | x :: l, m, b => by
    show ((mAns b ⟨x.toArray⟩).bind fun r => (runL r.2 (l ++ m)).map fun q => (r.1.data.toList ++ 10 :: q.1, q.2)) = ((mAns b ⟨x.toArray⟩).bind fun r => (runL r.2 l).map fun q => (r.1.data.toList ++ 10 :: q.1, q.2)).bind _
    cases mAns b ⟨x.toArray⟩ with
    | none => rfl
    | some r =>
      show ((runL r.2 (l ++ m)).map fun q => (r.1.data.toList ++ 10 :: q.1, q.2)) = ((runL r.2 l).map fun q => (r.1.data.toList ++ 10 :: q.1, q.2)).bind _
      rw [runL_app l m r.2]
      cases runL r.2 l with
      | none => rfl
      | some q =>
        show ((runL q.2 m).map fun q' => (q.1 ++ q'.1, q'.2)).map _ = (runL q.2 m).map _
        cases runL q.2 m with
        | none => rfl
        | some q' => simp
theorem runL_tot : ∀ (l : List (List UInt8)) (b : BkT), BInv b → (∀ x ∈ l, x.length ≤ 100000) → ∃ q b', runL b l = some (q, b') ∧ BInv b' ∧ q.length ≤ 21 * l.length ∧ q.count 10 = l.length ∧ whole q
  | [], b, h, _ => ⟨[], b, rfl, h, by simp, by simp, .inl rfl⟩
  | x :: l, b, h, hx => by
    obtain ⟨a, b1, a1, a2, a3, a4, a5⟩ := ans_tot h (s := ⟨x.toArray⟩) (hx x List.mem_cons_self)
    obtain ⟨q, b2, q1, q2, q3, q4, q5⟩ := runL_tot l b1 a2 fun y hy => hx y (List.mem_cons_of_mem _ hy)
    refine ⟨a.data.toList ++ 10 :: q, b2, ?_, q2, ?_, ?_, ?_⟩
    · show ((mAns b ⟨x.toArray⟩).bind fun r => (runL r.2 l).map fun q => (r.1.data.toList ++ 10 :: q.1, q.2)) = _
      rw [a1, Option.bind_some, q1]; rfl
    · rw [List.length_append, bytes_len, List.length_cons, List.length_cons]; omega
    · rw [List.count_append, List.count_eq_zero.2 a4, List.count_cons, q4, List.length_cons]; simp
    · rcases q5 with rfl | ⟨p, rfl⟩
      · exact .inr ⟨a.data.toList, rfl⟩
      · exact .inr ⟨a.data.toList ++ 10 :: p, by simp⟩
theorem run_eq : ∀ (F : Nat) (b : BkT) (t out : ByteArray) (q : List UInt8) (b' : BkT), runL b (linesR t.data.toList) = some (q, b') → t.size < F → out.size + q.length < 900000000 → runM F b t out = some ⟨(out.data.toList ++ q).toArray⟩
  | 0, b, t, out, q, b', _, h, _ => by omega
  | F + 1, b, t, out, q, b', hq, hF, hs => by
    unfold runM
    by_cases c : t.size = 0
    · rw [if_pos c]
      have e : t.data.toList = [] := List.eq_nil_of_length_eq_zero (by rw [bytes_len]; exact c)
      rw [e] at hq
      have hq : some (([] : List UInt8), b) = some (q, b') := hq
      cases hq
      rw [List.append_nil]
    rw [if_neg c]
    have hne : t.data.toList ≠ [] := fun e => c (by rw [← bytes_len, e]; rfl)
    have key : ∃ p r, linesR t.data.toList = p :: linesR r ∧ (Lib.trimSuffix (lnB t).1.data.toList [10]) = p ∧ (lnB t).2.data.toList = r ∧ r.length < t.size := by
      rcases row_or t.data.toList with h | ⟨p, r, h1, h2⟩
      · have hc : cutLn t.data.toList = (t.data.toList, []) := cut_torn _ h
        have g1 : (lnB t).1.data.toList = t.data.toList := by show (cutLn t.data.toList).1.toArray.toList = _; rw [hc]
        have g2 : (lnB t).2.data.toList = [] := by show (cutLn t.data.toList).2.toArray.toList = _; rw [hc]
        refine ⟨t.data.toList, [], by rw [linesR_torn h hne]; rfl, ?_, g2, by simp; omega⟩
        rw [g1]; unfold Lib.trimSuffix; rw [if_neg (by rw [suff_torn h]; decide)]
      · have hc : cutLn t.data.toList = (p ++ [10], r) := by rw [h1]; exact cut_row _ _ h2
        have g1 : (lnB t).1.data.toList = p ++ [10] := by show (cutLn t.data.toList).1.toArray.toList = _; rw [hc]
        have g2 : (lnB t).2.data.toList = r := by show (cutLn t.data.toList).2.toArray.toList = _; rw [hc]
        have := congrArg List.length h1
        rw [bytes_len, List.length_append, List.length_cons] at this
        exact ⟨p, r, by rw [h1, linesR_row h2], by rw [g1]; exact trim_row p, g2, by omega⟩
    obtain ⟨p, r, k1, k2, k3, k4⟩ := key
    rw [k1] at hq
    have hq : ((mAns b ⟨p.toArray⟩).bind fun r' => (runL r'.2 (linesR r)).map fun q => (r'.1.data.toList ++ 10 :: q.1, q.2)) = some (q, b') := hq
    obtain ⟨a, a1, hq⟩ := obind hq
    cases e : runL a.2 (linesR r) with
    | none => rw [e] at hq; cases hq
    | some q2 =>
      rw [e] at hq
      have hq : some (a.1.data.toList ++ 10 :: q2.1, q2.2) = some (q, b') := hq
      cases hq
      rw [List.length_append, bytes_len, List.length_cons] at hs
      rw [k2, a1, Option.bind_some, if_pos (by omega)]
      have hsz : (lnB t).2.size < F := by rw [← bytes_len, k3]; omega
      have hos : ((out ++ a.1) ++ (⟨#[10]⟩ : ByteArray)).size = out.size + a.1.size + 1 := by rw [ByteArray.size_append, ByteArray.size_append]; rfl
      rw [run_eq F a.2 (lnB t).2 ((out ++ a.1) ++ ⟨#[10]⟩) q2.1 q2.2 (by rw [k3]; exact e) hsz (by rw [hos]; omega)]
      congr 2
      simp
theorem linesR_len : ∀ (l cur : List UInt8), (lnA cur l).length ≤ l.length + cur.length ∧ ∀ x ∈ lnA cur l, x.length ≤ l.length + cur.length
  | [], cur => by
    unfold lnA
    split
    · simp
    · rename_i h
      have : 0 < cur.length := List.length_pos_iff.2 h
      exact ⟨by simp; omega, fun x hx => by rw [List.mem_singleton.1 hx]; simp⟩
  | b :: l, cur => by
    unfold lnA
    split
    · obtain ⟨h1, h2⟩ := linesR_len l []
      refine ⟨by simp at h1 ⊢; omega, fun x hx => ?_⟩
      rcases List.mem_cons.1 hx with rfl | hx
      · simp
      · have := h2 x hx; simp at this ⊢; omega
    · obtain ⟨h1, h2⟩ := linesR_len l (cur ++ [b])
      simp only [List.length_append, List.length_cons, List.length_nil] at h1 h2 ⊢
      exact ⟨by omega, fun x hx => by have := h2 x hx; omega⟩
/-- what a session of at most 3000 bytes gives -/
theorem mRun_tot (t : ByteArray) (ht : t.size ≤ 3000) : ∃ q b', runL newB (linesR t.data.toList) = some (q, b') ∧ mRun t = some ⟨q.toArray⟩ ∧ BInv b' ∧ q.count 10 = (linesR t.data.toList).length ∧ whole q ∧ q.length ≤ 63000 := by
  obtain ⟨h1, h2⟩ := linesR_len t.data.toList []
  rw [bytes_len] at h1 h2
  obtain ⟨q, b', q1, q2, q3, q4, q5⟩ := runL_tot (linesR t.data.toList) newB new_inv fun x hx => by have := h2 x hx; simp at this; omega
  have h1 : (linesR t.data.toList).length ≤ t.size + 0 := h1
  refine ⟨q, b', q1, ?_, q2, q4, q5, by omega⟩
  unfold mRun
  rw [if_neg (by omega), run_eq (t.size + 1) newB t ⟨#[]⟩ q b' q1 (by omega) (by show 0 + q.length < 900000000; omega)]
  rfl
end Go.Proofs.YtekfgkeimlidhaaGreatDoor
/- DeskBegins, DeskLines -/
set_option linter.all false
set_option maxRecDepth 100000
namespace Go.Proofs.YtekfgkeimlidhaaGreatDoor
open Go.RowKit Go.Shelf Pl
theorem ans_none {b : BkT} {s : ByteArray} (hs : s.size ≤ 100000) (h : vbO ((wdsB s).getD 0 ByteArray.empty) = none) : mAns b s = some (badS, b) := by
  unfold mAns
  rw [if_pos hs]
  cases wdN (wdsB s).tail [] with
  | none => rfl
  | some ns => show mVerb b _ ns = _; unfold mVerb; rw [h]
theorem ans_many {b : BkT} (h : BInv b) : mAns b ⟨#[109, 97, 110, 121]⟩ = some (dec ((linesOf b.1).length : Int), b) := by
  have hw : (wdsB ⟨#[109, 97, 110, 121]⟩).map (fun x => x.data.toList) = [[109, 97, 110, 121]] := by decide +kernel
  have hw2 : wdsB ⟨#[109, 97, 110, 121]⟩ = [⟨#[109, 97, 110, 121]⟩] := by
    rw [map_bytes hw]; rfl
  have hv : vbO ⟨#[109, 97, 110, 121]⟩ = some (0, 3) := by decide +kernel
  have hle := linesOf_le b.1
  unfold mAns
  rw [if_pos (by decide), hw2]
  show mVerb b ⟨#[109, 97, 110, 121]⟩ [] = _
  unfold mVerb
  rw [hv]
  show (if ([] : List Int).length = 0 then vAct b 3 [] else some (badS, b)) = _
  rw [if_pos (show ([] : List Int).length = 0 from rfl)]
  unfold vAct
  rw [if_neg (by decide), if_neg (by decide), if_neg (by decide), if_pos rfl, lines_ev h, Option.bind_some]
  unfold chkO
  rw [if_pos (by omega)]
theorem fact_many : mRun ⟨#[109, 97, 110, 121]⟩ = some ⟨#[48, 10]⟩ := by
  have h0 : (linesOf newB.1).length = 0 := by decide +kernel
  have h1 : runL newB (linesR [109, 97, 110, 121]) = some ([48, 10], newB) := by
    show runL newB [[109, 97, 110, 121]] = _
    show ((mAns newB ⟨#[109, 97, 110, 121]⟩).bind fun r => (runL r.2 []).map fun q => (r.1.data.toList ++ 10 :: q.1, q.2)) = _
    rw [ans_many new_inv, Option.bind_some, h0]
    show some ((dec ((0 : Nat) : Int)).data.toList ++ 10 :: [], newB) = _
    rw [dec_1 (by omega)]; rfl
  unfold mRun
  rw [if_neg (by decide), run_eq _ newB ⟨#[109, 97, 110, 121]⟩ ⟨#[]⟩ [48, 10] newB h1 (by decide) (by decide)]
  rfl
theorem join_new : mJoin newB 0 1 = some (0, joinB newB 0 1) := by
  unfold mJoin
  rw [if_pos new_inv.ok, if_pos (by decide), if_neg (by decide +kernel), if_neg (by decide)]
theorem fact_join : mRun ⟨#[106, 111, 105, 110, 32, 48, 32, 49, 10, 10, 98]⟩ = some ⟨#[111, 107, 10, 98, 97, 100, 10, 98, 97, 100, 10]⟩ := by
  have hw : (wdsB ⟨#[106, 111, 105, 110, 32, 48, 32, 49]⟩).map (fun x => x.data.toList) = [[106, 111, 105, 110], [48], [49]] := by decide +kernel
  have hw2 : wdsB ⟨#[106, 111, 105, 110, 32, 48, 32, 49]⟩ = [⟨#[106, 111, 105, 110]⟩, ⟨#[48]⟩, ⟨#[49]⟩] := by
    rw [map_bytes hw]; rfl
  have n0 : numM ⟨#[48]⟩ = (((0 : Nat) : Int), true) := num_dec (v := ((0 : Nat) : Int)) (x := ⟨#[48]⟩) (chkA_ok (by decide +kernel)) (by omega) (dec_1 (i := 0) (by omega))
  have n1 : numM ⟨#[49]⟩ = (((1 : Nat) : Int), true) := num_dec (v := ((1 : Nat) : Int)) (x := ⟨#[49]⟩) (chkA_ok (by decide +kernel)) (by omega) (dec_1 (i := 1) (by omega))
  have o0 : okW ⟨#[48]⟩ = true := by unfold okW; rw [n0]; rfl
  have o1 : okW ⟨#[49]⟩ = true := by unfold okW; rw [n1]; rfl
  have hv : vbO ⟨#[106, 111, 105, 110]⟩ = some (2, 0) := by decide +kernel
  have hd : wdN [⟨#[48]⟩, ⟨#[49]⟩] [] = some [0, 1] := by
    unfold wdN; rw [if_pos o0, n0]
    unfold wdN; rw [if_pos o1, n1]; rfl
  have a1 : mAns newB ⟨#[106, 111, 105, 110, 32, 48, 32, 49]⟩ = some (tld 0, joinB newB 0 1) := by
    unfold mAns
    rw [if_pos (by decide), hw2]
    show (match wdN [⟨#[48]⟩, ⟨#[49]⟩] [] with | none => some (badS, newB) | some ns => mVerb newB ⟨#[106, 111, 105, 110]⟩ ns) = _
    rw [hd]
    show mVerb newB ⟨#[106, 111, 105, 110]⟩ [0, 1] = _
    unfold mVerb
    rw [hv]
    show (if ([0, 1] : List Int).length = 2 then vAct newB 0 [0, 1] else some (badS, newB)) = _
    rw [if_pos (show ([0, 1] : List Int).length = 2 from rfl)]
    unfold vAct
    rw [if_pos rfl]
    show (mJoin newB 0 1).bind _ = _
    rw [join_new, Option.bind_some]; rfl
  have a2 : ∀ b : BkT, mAns b ⟨#[]⟩ = some (badS, b) := fun b => ans_none (by decide) (by decide +kernel)
  have a3 : ∀ b : BkT, mAns b ⟨#[98]⟩ = some (badS, b) := fun b => ans_none (by decide) (by decide +kernel)
  have h1 : runL newB (linesR [106, 111, 105, 110, 32, 48, 32, 49, 10, 10, 98]) = some ([111, 107, 10, 98, 97, 100, 10, 98, 97, 100, 10], joinB newB 0 1) := by
    show runL newB [[106, 111, 105, 110, 32, 48, 32, 49], [], [98]] = _
    show ((mAns newB ⟨#[106, 111, 105, 110, 32, 48, 32, 49]⟩).bind fun r => (runL r.2 [[], [98]]).map fun q => (r.1.data.toList ++ 10 :: q.1, q.2)) = _
    rw [a1, Option.bind_some]
    show (((mAns (joinB newB 0 1) ⟨#[]⟩).bind fun r => (runL r.2 [[98]]).map fun q => (r.1.data.toList ++ 10 :: q.1, q.2))).map _ = _
    rw [a2, Option.bind_some]
    show ((((mAns (joinB newB 0 1) ⟨#[98]⟩).bind fun r => (runL r.2 []).map fun q => (r.1.data.toList ++ 10 :: q.1, q.2))).map _).map _ = _
    rw [a3, Option.bind_some]; rfl
  unfold mRun
  rw [if_neg (by decide), run_eq _ newB ⟨#[106, 111, 105, 110, 32, 48, 32, 49, 10, 10, 98]⟩ ⟨#[]⟩ _ _ h1 (by decide) (by decide)]
  rfl
end Go.Proofs.YtekfgkeimlidhaaGreatDoor
