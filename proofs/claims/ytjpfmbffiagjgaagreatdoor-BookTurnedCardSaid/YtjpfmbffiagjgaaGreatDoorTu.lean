import Derived.Test.YtjpfmbffiagjgaaGreatDoorTn
import Derived.Lib.Strings
/- plain: a byte of a log that was turned -/
set_option linter.all false
set_option maxRecDepth 100000
namespace Go.Proofs.YtjpfmbffiagjgaaGreatDoor
open Go.RowKit Go.Shelf Pl
theorem arr_get {L : List UInt8} {j : Nat} {c : UInt8} (h : L[j]? = some c) : L.toArray[j]! = c := by
  obtain ⟨q, h⟩ := List.getElem?_eq_some_iff.1 h
  subst h
  simp [q]
theorem lix_at {L : List UInt8} {k : Nat} (hk : L[k]? = some 32) (hn : ∀ j c, k < j → L[j]? = some c → c ≠ 32) : Lib.lastIndexByte ⟨L.toArray⟩ 32 = (k : Int) := by
  have hsz : k < L.length := (List.getElem?_eq_some_iff.1 hk).1
  have hz : (⟨L.toArray⟩ : ByteArray).size = L.length := rfl
  rcases Lib.lastIndexByte_spec (⟨L.toArray⟩ : ByteArray) 32 with ⟨h1, h2⟩ | ⟨i, h1, h2, h3, h4⟩
  · exact absurd (by show ((L.toArray[k]!).toNat : Int) = 32; rw [arr_get hk]; rfl) (h2 k hsz)
  · rw [h2]
    rcases Nat.lt_trichotomy i k with q | q | q
    · exact absurd (by show ((L.toArray[k]!).toNat : Int) = 32; rw [arr_get hk]; rfl) (h4 k q hsz)
    · rw [q]
    · exfalso
      rw [hz] at h1
      have e := List.getElem?_eq_getElem h1
      refine hn i _ q e ?_
      have h3 : ((L.toArray[i]!).toNat : Int) = 32 := h3
      rw [arr_get e] at h3
      exact UInt8.toNat_inj.1 (by show _ = 32; omega)
theorem numM_true {x : ByteArray} {n : Int} (h : numM x = (n, true)) : 0 ≤ n ∧ (dec n).data.toList = x.data.toList := by
  unfold numM at h
  have h1 := congrArg Prod.fst h
  have h2 := congrArg Prod.snd h
  dsimp only at h1 h2
  rw [h1] at h2
  simp only [Bool.and_eq_true, decide_eq_true_eq, beq_iff_eq] at h2
  refine ⟨h2.2.1, ?_⟩
  have := h2.2.2
  rw [Lib.toList_data, Lib.toList_data] at this
  exact this
theorem dec_len {n : Int} (h : 0 ≤ n) : (dec n).data.toList.length = Lib.nDigits n.toNat := by
  unfold dec Lib.itoa
  rw [if_neg (by omega)]
  show (Lib.decDigits n.toNat).length = _
  exact Lib.decDigits_length _
theorem dig_4 {n : Nat} (h : n < 9973) : Lib.nDigits n ≤ 4 := by
  by_cases h1 : n < 10
  · rw [Lib.nDigits_small h1]; omega
  rw [Lib.nDigits_big h1]
  by_cases h2 : n / 10 < 10
  · rw [Lib.nDigits_small h2]; omega
  rw [Lib.nDigits_big h2]
  by_cases h3 : n / 10 / 10 < 10
  · rw [Lib.nDigits_small h3]; omega
  rw [Lib.nDigits_big h3, Lib.nDigits_small (by omega)]; omega
theorem dig_3 {n : Nat} (h : 100 ≤ n) : 3 ≤ Lib.nDigits n := by
  rw [Lib.nDigits_big (by omega), Lib.nDigits_big (by omega)]
  have := Lib.nDigits_pos (n / 10 / 10); omega
theorem mLine_bad {b : BkT} {L : List UInt8} {k : Nat} (hb : okB b) (hl : L.length < 1000000) (hk : Lib.lastIndexByte ⟨L.toArray⟩ 32 = (k : Int))
    (h : ∀ n : Int, numM ⟨(L.drop (k + 1)).toArray⟩ = (n, true) → n ≠ ((bsm (L.take k) 0 % 9973 : Nat) : Int)) : ∃ e : Int, (e = 2 ∨ e = 6) ∧ mLine b ⟨L.toArray⟩ = some (e, b) := by
  have hz : (⟨L.toArray⟩ : ByteArray).size = L.length := rfl
  have hbody : bodyB ⟨L.toArray⟩ = ⟨(L.take k).toArray⟩ := bytes_ext (by unfold bodyB; rw [hk, Lib.extract_data, List.drop_zero, Nat.sub_zero]; rfl)
  have htail : tailB ⟨L.toArray⟩ = ⟨(L.drop (k + 1)).toArray⟩ := bytes_ext (by
    unfold tailB; rw [hk, Lib.extract_data, hz]
    show (L.drop (k + 1)).take (L.length - (k + 1)) = L.drop (k + 1)
    rw [List.take_of_length_le (by rw [List.length_drop]; exact Nat.le_refl _)])
  unfold mLine
  rw [if_pos ⟨hb, by rw [hz]; omega⟩, hk, if_neg (by omega), hbody, htail]
  by_cases c : (numM ⟨(L.drop (k + 1)).toArray⟩).2 = true
  · rw [if_pos c]
    have := h (numM ⟨(L.drop (k + 1)).toArray⟩).1 (Prod.ext rfl c)
    rw [if_neg this]
    exact ⟨6, Or.inr rfl, rfl⟩
  · rw [if_neg c]; exact ⟨2, Or.inl rfl, rfl⟩
theorem dg8_ne {i : Nat} (h : i < 10) : dg8 i ≠ 32 := by
  intro e
  have := congrArg UInt8.toNat e
  unfold dg8 at this
  rw [UInt8.toNat_ofNat'] at this
  have e32 : (32 : UInt8).toNat = 32 := rfl
  omega
theorem vrb_ne (s : Stp) : vrb s ≠ 32 ∧ 99 ≤ (vrb s).toNat := by unfold vrb; split <;> exact ⟨by decide, by decide⟩
theorem u8_ne {a b : UInt8} (h : a ≠ b) : a.toNat ≠ b.toNat := fun e => h (UInt8.toNat_inj.1 e)
set_option maxHeartbeats 2000000 in
theorem row_bad {b : BkT} {s : Stp} {p : Nat} {c : UInt8} (hb : okB b) (hs : okS s) (hp : p < 9) (hne : (lnL s)[p]? ≠ some c) : ∃ e : Int, (e = 2 ∨ e = 6) ∧ mLine b ⟨((lnL s).set p c).toArray⟩ = some (e, b) := by
  have F := ln_facts hs
  have hS : sumS s = bsm (bdyL s) 0 % 9973 := rfl
  have hl : lnL s = [vrb s, 32, dg8 s.2.1, 32, dg8 s.2.2, 32, dg8 (sumS s / 100), dg8 (sumS s / 10 % 10), dg8 (sumS s % 10)] := rfl
  have hbd : bdyL s = [vrb s, 32, dg8 s.2.1, 32, dg8 s.2.2] := rfl
  have hnum : numM ⟨#[dg8 (sumS s / 100), dg8 (sumS s / 10 % 10), dg8 (sumS s % 10)]⟩ = ((sumS s : Int), true) := num_dec F.num (by omega) (dec_3 F.s0 F.s1)
  have hdec := dec_3 F.s0 F.s1
  obtain ⟨v0, v1⟩ := vrb_ne s
  have a0 := dg8_ne (i := s.2.1) (by have := hs.1; omega)
  have d0 := dg8_ne (i := s.2.2) (by have := hs.2; omega)
  have x0 := dg8_ne (i := sumS s / 100) (by have := F.s1; omega)
  have y0 := dg8_ne (i := sumS s / 10 % 10) (by omega)
  have z0 := dg8_ne (i := sumS s % 10) (by omega)
  have hs1 := F.s1
  rw [hbd] at hS
  rw [hl] at hne ⊢
  generalize sumS s = S at *
  generalize dg8 s.2.1 = a at *
  generalize dg8 s.2.2 = d at *
  generalize dg8 (S / 100) = x at *
  generalize dg8 (S / 10 % 10) = y at *
  generalize dg8 (S % 10) = z at *
  generalize vrb s = v at *
  clear F hl hbd hs
  have e32 : (32 : UInt8).toNat = 32 := rfl
  have lv := v.toNat_lt; have la := a.toNat_lt; have ld := d.toNat_lt; have lc := c.toNat_lt
  have lx := x.toNat_lt; have ly := y.toNat_lt; have lz := z.toNat_lt
  simp only [bsm, e32, Nat.zero_add] at hS
  have tl : ∀ {L : List UInt8} {j : Nat} {q : UInt8}, L[j]? = some q → L[j]? = some q := fun h => h
  match p, hp with
  | 0, _ =>
    have hcn := u8_ne (show v ≠ c from fun e => hne (by rw [e]; rfl))
    refine mLine_bad (k := 5) hb (by show 9 < _; omega) (lix_at rfl fun j q hj hq => ?_) fun n hn => ?_
    · match j, hj, hq with
      | 6, _, rfl => exact x0
      | 7, _, rfl => exact y0
      | 8, _, rfl => exact z0
    · have hn : numM ⟨#[x, y, z]⟩ = (n, true) := hn
      rw [hnum] at hn
      have := congrArg Prod.fst hn
      have this : (S : Int) = n := this
      show n ≠ ((bsm [c, 32, a, 32, d] 0 % 9973 : Nat) : Int)
      simp only [bsm, e32, Nat.zero_add]
      omega
  | 1, _ =>
    have hcn := u8_ne (show (32 : UInt8) ≠ c from fun e => hne (by rw [← e]; rfl))
    refine mLine_bad (k := 5) hb (by show 9 < _; omega) (lix_at rfl fun j q hj hq => ?_) fun n hn => ?_
    · match j, hj, hq with
      | 6, _, rfl => exact x0
      | 7, _, rfl => exact y0
      | 8, _, rfl => exact z0
    · have hn : numM ⟨#[x, y, z]⟩ = (n, true) := hn
      rw [hnum] at hn
      have := congrArg Prod.fst hn
      have this : (S : Int) = n := this
      show n ≠ ((bsm [v, c, a, 32, d] 0 % 9973 : Nat) : Int)
      simp only [bsm, e32, Nat.zero_add]
      omega
  | 2, _ =>
    have hcn := u8_ne (show a ≠ c from fun e => hne (by rw [e]; rfl))
    refine mLine_bad (k := 5) hb (by show 9 < _; omega) (lix_at rfl fun j q hj hq => ?_) fun n hn => ?_
    · match j, hj, hq with
      | 6, _, rfl => exact x0
      | 7, _, rfl => exact y0
      | 8, _, rfl => exact z0
    · have hn : numM ⟨#[x, y, z]⟩ = (n, true) := hn
      rw [hnum] at hn
      have := congrArg Prod.fst hn
      have this : (S : Int) = n := this
      show n ≠ ((bsm [v, 32, c, 32, d] 0 % 9973 : Nat) : Int)
      simp only [bsm, e32, Nat.zero_add]
      omega
  | 3, _ =>
    have hcn := u8_ne (show (32 : UInt8) ≠ c from fun e => hne (by rw [← e]; rfl))
    refine mLine_bad (k := 5) hb (by show 9 < _; omega) (lix_at rfl fun j q hj hq => ?_) fun n hn => ?_
    · match j, hj, hq with
      | 6, _, rfl => exact x0
      | 7, _, rfl => exact y0
      | 8, _, rfl => exact z0
    · have hn : numM ⟨#[x, y, z]⟩ = (n, true) := hn
      rw [hnum] at hn
      have := congrArg Prod.fst hn
      have this : (S : Int) = n := this
      show n ≠ ((bsm [v, 32, a, c, d] 0 % 9973 : Nat) : Int)
      simp only [bsm, e32, Nat.zero_add]
      omega
  | 4, _ =>
    have hcn := u8_ne (show d ≠ c from fun e => hne (by rw [e]; rfl))
    refine mLine_bad (k := 5) hb (by show 9 < _; omega) (lix_at rfl fun j q hj hq => ?_) fun n hn => ?_
    · match j, hj, hq with
      | 6, _, rfl => exact x0
      | 7, _, rfl => exact y0
      | 8, _, rfl => exact z0
    · have hn : numM ⟨#[x, y, z]⟩ = (n, true) := hn
      rw [hnum] at hn
      have := congrArg Prod.fst hn
      have this : (S : Int) = n := this
      show n ≠ ((bsm [v, 32, a, 32, c] 0 % 9973 : Nat) : Int)
      simp only [bsm, e32, Nat.zero_add]
      omega
  | 5, _ =>
    have hcn := show (32 : UInt8) ≠ c from fun e => hne (by rw [← e]; rfl)
    refine mLine_bad (k := 3) hb (by show 9 < _; omega) (lix_at rfl fun j q hj hq => ?_) fun n hn => ?_
    · match j, hj, hq with
      | 4, _, rfl => exact d0
      | 5, _, rfl => exact hcn.symm
      | 6, _, rfl => exact x0
      | 7, _, rfl => exact y0
      | 8, _, rfl => exact z0
    · obtain ⟨h0, h1⟩ := numM_true hn
      have h2 := dec_len h0
      have h1 : (dec n).data.toList = [d, c, x, y, z] := h1
      rw [h1] at h2
      have h2 : 5 = Lib.nDigits n.toNat := h2
      intro e
      have := Nat.mod_lt (bsm (([v, 32, a, 32, d, 32, x, y, z].set 5 c).take 3) 0) (show 0 < 9973 by omega)
      have := dig_4 (n := n.toNat) (by omega)
      omega
  | 6, _ =>
    by_cases q32 : c = 32
    · subst q32
      refine mLine_bad (k := 6) hb (by show 9 < _; omega) (lix_at rfl fun j q hj hq => ?_) fun n hn => ?_
      · match j, hj, hq with
        | 7, _, rfl => exact y0
        | 8, _, rfl => exact z0
      · obtain ⟨h0, h1⟩ := numM_true hn
        have h2 := dec_len h0
        rw [h1] at h2
        have h2 : 2 = Lib.nDigits n.toNat := h2
        show n ≠ ((bsm [v, 32, a, 32, d, 32] 0 % 9973 : Nat) : Int)
        simp only [bsm, e32, Nat.zero_add]
        intro e
        have := dig_3 (n := n.toNat) (by omega)
        omega
    · have hcn := show x ≠ c from fun e => hne (by rw [e]; rfl)
      refine mLine_bad (k := 5) hb (by show 9 < _; omega) (lix_at rfl fun j q hj hq => ?_) fun n hn => ?_
      · match j, hj, hq with
        | 6, _, rfl => exact q32
        | 7, _, rfl => exact y0
        | 8, _, rfl => exact z0
      · obtain ⟨h0, h1⟩ := numM_true hn
        have h1 : (dec n).data.toList = [c, y, z] := h1
        intro e
        have e : n = ((bsm [v, 32, a, 32, d] 0 % 9973 : Nat) : Int) := e
        simp only [bsm, e32, Nat.zero_add] at e
        have : n = (S : Int) := by omega
        rw [this, hdec] at h1
        have h1 : [x, y, z] = [c, y, z] := h1
        injection h1 with h1 _
        exact hcn h1
  | 7, _ =>
    by_cases q32 : c = 32
    · subst q32
      refine mLine_bad (k := 7) hb (by show 9 < _; omega) (lix_at rfl fun j q hj hq => ?_) fun n hn => ?_
      · match j, hj, hq with
        | 8, _, rfl => exact z0
      · obtain ⟨h0, h1⟩ := numM_true hn
        have h2 := dec_len h0
        rw [h1] at h2
        have h2 : 1 = Lib.nDigits n.toNat := h2
        show n ≠ ((bsm [v, 32, a, 32, d, 32, x] 0 % 9973 : Nat) : Int)
        simp only [bsm, e32, Nat.zero_add]
        clear hS hnum hdec
        rw [Nat.mod_eq_of_lt (by omega)]
        intro e
        have := dig_3 (n := n.toNat) (by omega)
        omega
    · have hcn := show y ≠ c from fun e => hne (by rw [e]; rfl)
      refine mLine_bad (k := 5) hb (by show 9 < _; omega) (lix_at rfl fun j q hj hq => ?_) fun n hn => ?_
      · match j, hj, hq with
        | 6, _, rfl => exact x0
        | 7, _, rfl => exact q32
        | 8, _, rfl => exact z0
      · obtain ⟨h0, h1⟩ := numM_true hn
        have h1 : (dec n).data.toList = [x, c, z] := h1
        intro e
        have e : n = ((bsm [v, 32, a, 32, d] 0 % 9973 : Nat) : Int) := e
        simp only [bsm, e32, Nat.zero_add] at e
        have : n = (S : Int) := by omega
        rw [this, hdec] at h1
        have h1 : [x, y, z] = [x, c, z] := h1
        injection h1 with _ h1
        injection h1 with h1 _
        exact hcn h1
  | 8, _ =>
    by_cases q32 : c = 32
    · subst q32
      refine mLine_bad (k := 8) hb (by show 9 < _; omega) (lix_at rfl fun j q hj hq => ?_) fun n hn => ?_
      · match j, hj, hq with
        | j + 9, _, hq => cases hq
      · obtain ⟨h0, h1⟩ := numM_true hn
        have h2 := dec_len h0
        rw [h1] at h2
        have h2 : 0 = Lib.nDigits n.toNat := h2
        have := Lib.nDigits_pos n.toNat
        omega
    · have hcn := show z ≠ c from fun e => hne (by rw [e]; rfl)
      refine mLine_bad (k := 5) hb (by show 9 < _; omega) (lix_at rfl fun j q hj hq => ?_) fun n hn => ?_
      · match j, hj, hq with
        | 6, _, rfl => exact x0
        | 7, _, rfl => exact y0
        | 8, _, rfl => exact q32
      · obtain ⟨h0, h1⟩ := numM_true hn
        have h1 : (dec n).data.toList = [x, y, c] := h1
        intro e
        have e : n = ((bsm [v, 32, a, 32, d] 0 % 9973 : Nat) : Int) := e
        simp only [bsm, e32, Nat.zero_add] at e
        have : n = (S : Int) := by omega
        rw [this, hdec] at h1
        have h1 : [x, y, z] = [x, y, c] := h1
        injection h1 with _ h1
        injection h1 with _ h1
        injection h1 with h1 _
        exact hcn h1
/-- the rows before a bad one are read, and it is told -/
theorem opL_bad : ∀ (h : List Stp) (F : Nat) (b b' b2 : BkT) (L rest : List UInt8) (t : ByteArray) (e : Int), BInv b → h.length < F → runH b h = some b' → ¬ (10 : UInt8) ∈ L → e ≠ 0 → mLine b' ⟨L.toArray⟩ = some (e, b2) →
    t.data.toList = txtL h ++ (L ++ 10 :: rest) → opL F b t = some (e, b2.2.2 + 1, b2)
  | [], F, b, b', b2, L, rest, t, e, hb, hF, hr, hL, he0, hm, he => by
    cases hr
    cases F with
    | zero => simp at hF
    | succ F =>
      have he' : t.data.toList = L ++ 10 :: rest := he
      have hsz : t.size ≠ 0 := by
        intro q
        have := congrArg List.length he'
        rw [bytes_len, q] at this
        simp at this
      have hc : cutLn t.data.toList = (L ++ [10], rest) := by rw [he']; exact cut_row _ _ hL
      have g1 : (lnB t).1.data.toList = L ++ [10] := by show (cutLn t.data.toList).1.toArray.toList = _; rw [hc]
      unfold opL
      rw [if_neg hsz, g1, suff_row, if_pos rfl, trim_row, hm, Option.bind_some, if_neg he0]
  | s :: h, F, b, b', b2, L, rest, t, e0, hb, hF, hr, hL, he0, hm, he => by
    cases F with
    | zero => simp at hF
    | succ F =>
      obtain ⟨e, b1, h1, h2, h3, h4⟩ := step_ev hb s
      unfold runH at hr
      rw [h1, Option.bind_some] at hr
      by_cases c : e = 0
      case neg => rw [if_neg c] at hr; cases hr
      rw [if_pos c] at hr
      obtain ⟨k1, k2, k3⟩ := h4 c
      have F1 := ln_facts k1
      have he' : t.data.toList = lnL s ++ 10 :: (txtL h ++ (L ++ 10 :: rest)) := by
        rw [he]; show (rowL s ++ txtL h) ++ _ = _; unfold rowL; simp
      have hsz : t.size ≠ 0 := by
        intro q
        have := congrArg List.length he'
        rw [bytes_len, q] at this
        simp at this
      have hc : cutLn t.data.toList = (lnL s ++ [10], txtL h ++ (L ++ 10 :: rest)) := by rw [he']; exact cut_row _ _ F1.no
      have g1 : (lnB t).1.data.toList = lnL s ++ [10] := by show (cutLn t.data.toList).1.toArray.toList = _; rw [hc]
      have g2 : (lnB t).2.data.toList = txtL h ++ (L ++ 10 :: rest) := by show (cutLn t.data.toList).2.toArray.toList = _; rw [hc]
      unfold opL
      rw [if_neg hsz, g1, suff_row, if_pos rfl, trim_row, mLine_row hb.ok k1, h1, Option.bind_some, if_pos c]
      rw [List.length_cons] at hF
      exact opL_bad h F b1 b' b2 L rest _ e0 h2 (by omega) hr hL he0 hm g2
theorem turn_split : ∀ (h : List Stp) (i : Nat) (c : UInt8), (∀ s ∈ h, okS s) → i < (txtL h).length → (txtL h)[i]? ≠ some 10 → ∃ h1 s h2 p, h = h1 ++ s :: h2 ∧ p < 9 ∧ (txtL h)[i]? = (lnL s)[p]? ∧ ((txtL h).take i).count 10 = h1.length ∧
      (txtL h).take i ++ c :: (txtL h).drop (i + 1) = txtL h1 ++ ((lnL s).set p c ++ 10 :: txtL h2)
  | [], i, c, _, hi, _ => by exact absurd hi (Nat.not_lt_zero _)
  | s :: h, i, c, ho, hi, hn => by
    have F := ln_facts (ho s List.mem_cons_self)
    have h9 : (lnL s).length = 9 := rfl
    have h10 : (rowL s).length = 10 := rfl
    have e : txtL (s :: h) = rowL s ++ txtL h := rfl
    have hc0 : (lnL s).count 10 = 0 := List.count_eq_zero.2 F.no
    have e9 : ∀ i, i < 9 → (txtL (s :: h))[i]? = (lnL s)[i]? := fun i q => by
      rw [e, List.getElem?_append_left (by omega)]
      unfold rowL
      rw [List.getElem?_append_left (by omega)]
    by_cases c9 : i < 9
    · refine ⟨[], s, h, i, rfl, c9, e9 i c9, ?_, ?_⟩
      · have e1 : (txtL (s :: h)).take i = (lnL s).take i := by
          rw [e, List.take_append_of_le_length (by omega)]
          unfold rowL
          rw [List.take_append_of_le_length (by omega)]
        rw [e1]
        exact List.count_eq_zero.2 fun q => F.no (List.mem_of_mem_take q)
      · show _ = (lnL s).set i c ++ 10 :: txtL h
        rw [List.set_eq_take_append_cons_drop, if_pos (by omega), e]
        unfold rowL
        rw [List.append_assoc, List.take_append_of_le_length (by omega), List.drop_append_of_le_length (by omega)]
        simp
    · by_cases ce : i = 9
      · subst ce
        exfalso; apply hn
        rw [e, List.getElem?_append_left (by omega)]
        unfold rowL
        rw [List.getElem?_append_right (by omega), h9]; rfl
      · have hge : 10 ≤ i := by omega
        rw [e, List.length_append, h10] at hi
        have e2 : (txtL (s :: h))[i]? = (txtL h)[i - 10]? := by rw [e, List.getElem?_append_right (by omega), h10]
        obtain ⟨h1, s', h2, p, q1, q2, q3, q4, q5⟩ := turn_split h (i - 10) c (fun x hx => ho x (List.mem_cons_of_mem _ hx)) (by omega) (by rw [← e2]; exact hn)
        have e1 : (txtL (s :: h)).take i = rowL s ++ (txtL h).take (i - 10) := by
          rw [e, List.take_append, h10, List.take_of_length_le (by omega)]
        refine ⟨s :: h1, s', h2, p, by rw [q1]; rfl, q2, by rw [e2]; exact q3, ?_, ?_⟩
        · rw [e1, List.count_append, q4]
          unfold rowL
          rw [List.count_append, hc0]
          simp; omega
        · rw [e1, e, List.drop_append, h10, List.drop_eq_nil_of_le (show (rowL s).length ≤ i + 1 by omega), List.nil_append, show i + 1 - 10 = (i - 10) + 1 by omega, List.append_assoc, q5]
          show rowL s ++ _ = (rowL s ++ txtL h1) ++ _
          rw [List.append_assoc]
theorem turned_facts (steps : List (List Int)) {i : Nat} {c : UInt8} {t : ByteArray} (hi : i < (goH (steps.take 70) newB).2.2.1.size) (h10 : (goH (steps.take 70) newB).2.2.1.data.toList[i]? ≠ some 10) (hc : c ≠ 10)
    (hne : (goH (steps.take 70) newB).2.2.1.data.toList[i]? ≠ some c) (ht : t.data.toList = (goH (steps.take 70) newB).2.2.1.data.toList.take i ++ c :: (goH (steps.take 70) newB).2.2.1.data.toList.drop (i + 1)) :
    ∃ (e : Int) (m : Nat) (bo : BkT), (e = 2 ∨ e = 6) ∧ m = ((goH (steps.take 70) newB).2.2.1.data.toList.take i).count 10 ∧ m ≤ 70 ∧ mOpen t = some (e, ((m + 1 : Nat) : Int), bo) := by
  obtain ⟨g1, g2⟩ := goH_run (steps.take 70) newB new_inv
  generalize hH : (goH (steps.take 70) newB).1 = h at *
  generalize hB : (goH (steps.take 70) newB).2 = b at *
  obtain ⟨i1, i2, i3⟩ := run_inv h new_inv g1
  have he : b.2.1.data.toList = txtL h := by rw [i3]; rfl
  have hlen : (txtL h).length = b.2.1.size := by rw [← he, bytes_len]
  rw [he] at h10 hne ht ⊢
  have hall := run_okS h new_inv g1
  obtain ⟨h1, s, h2, p, q1, q2, q3, q4, q5⟩ := turn_split h i c hall (by omega) h10
  have hn0 : newB.2.2 = 0 := rfl
  have hmany := i1.many1
  have hok : okS s := hall s (by rw [q1]; exact List.mem_append_right _ List.mem_cons_self)
  rw [q1, runH_app] at g1
  cases er : runH newB h1 with
  | none => rw [er] at g1; cases g1
  | some b1 =>
    obtain ⟨j1, j2, j3⟩ := run_inv h1 new_inv er
    obtain ⟨e, e1, e2⟩ := row_bad j1.ok hok q2 (c := c) (by rw [← q3]; exact hne)
    have hno : ¬ (10 : UInt8) ∈ (lnL s).set p c := by
      intro q
      rcases List.mem_or_eq_of_mem_set q with q | q
      · exact (ln_facts hok).no q
      · exact hc q.symm
    have hl1 : h1.length ≤ h.length := by rw [q1, List.length_append]; omega
    refine ⟨e, h1.length, b1, e1, q4.symm, by omega, ?_⟩
    have hsz := congrArg List.length ht
    rw [bytes_len, List.length_append, List.length_take, List.length_cons, List.length_drop] at hsz
    rw [txtL_len] at hlen hsz
    unfold mOpen
    rw [if_neg (by omega), opL_bad h1 (t.size + 1) newB b1 b1 _ (txtL h2) t e new_inv (by omega) er hno (by rcases e1 with rfl | rfl <;> decide) e2 (by rw [ht]; exact q5), j2, hn0]
    congr 3
    omega
end Go.Proofs.YtjpfmbffiagjgaaGreatDoor
