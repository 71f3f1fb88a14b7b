import Derived.Test.YtjpfmbffiagjgaaGreatDoorLS
import Derived.Lib.Strings
import Derived.Test.YtjpfmbffiagjgaaGreatDoorRA
import Derived.Test.YtjpfmbffiagjgaaGreatDoorOh
import Derived.Lib.SplitLaws
import Derived.Lib.IndexBytes
/- plain: a number written in decimal, read again -/
set_option linter.all false
set_option maxRecDepth 100000
namespace Go.Proofs.YtjpfmbffiagjgaaGreatDoor
open Go.RowKit Go.Shelf
theorem pu_app : ∀ (l : List UInt8) (c : UInt8) (a u : Nat), Lib.parseUint10 a l = .ok u → Lib.parseUint10 a (l ++ [c]) = Lib.parseUint10 u [c]
  | [], c, a, u, h => by
    have : a = u := by simpa [Lib.parseUint10] using h
    rw [this]; rfl
  | d :: l, c, a, u, h => by
    rw [List.cons_append]
    rw [Lib.parseUint10] at h ⊢
    by_cases h1 : 48 ≤ d.toNat ∧ d.toNat ≤ 57
    · rw [if_pos h1] at h ⊢
      by_cases h2 : 1844674407370955162 ≤ a
      · rw [if_pos h2] at h; cases h
      · rw [if_neg h2] at h ⊢
        by_cases h3 : 18446744073709551616 ≤ a * 10 + (d.toNat - 48)
        · rw [if_pos h3] at h; cases h
        · rw [if_neg h3] at h ⊢
          exact pu_app l c _ u h
    · rw [if_neg h1] at h; cases h
theorem dig_nat {i : Nat} (h : i < 10) : (UInt8.ofNat (48 + i)).toNat = 48 + i := by
  rw [UInt8.toNat_ofNat']; omega
theorem pu_dec (n : Nat) : n < 9223372036854775808 → Lib.parseUint10 0 (Lib.decDigits n) = .ok n := by
  induction n using Nat.strongRecOn with
  | _ n ih =>
    intro h
    by_cases c : n < 10
    · rw [Lib.decDigits_one c, Lib.parseUint10, dig_nat c, if_pos (by omega), if_neg (by omega), if_neg (by omega), Lib.parseUint10]
      congr 1; omega
    · have i := ih (n / 10) (by omega) (by omega)
      have hm : n % 10 < 10 := by omega
      rw [Lib.decDigits, dif_neg c, pu_app _ _ _ _ i, Lib.parseUint10, dig_nat hm, if_pos (by omega), if_neg (by omega), if_neg (by omega), Lib.parseUint10]
      congr 1; omega
theorem dec_digs (n : Nat) : ∀ c ∈ Lib.decDigits n, 48 ≤ c.toNat ∧ c.toNat ≤ 57 := by
  induction n using Nat.strongRecOn with
  | _ n ih =>
    intro c hc
    rw [Lib.decDigits] at hc
    by_cases h : n < 10
    · rw [dif_pos h] at hc
      rw [List.mem_singleton.1 hc, dig_nat h]; omega
    · rw [dif_neg h] at hc
      rcases List.mem_append.1 hc with hc | hc
      · exact ih _ (by omega) c hc
      · rw [List.mem_singleton.1 hc, dig_nat (Nat.mod_lt n (by omega))]; omega
theorem dec_list (n : Nat) : (dec (n : Int)).data.toList = Lib.decDigits n := by
  unfold dec Lib.itoa
  rw [if_neg (by omega), Int.toNat_natCast]
theorem dec_ne (n : Nat) : Lib.decDigits n ≠ [] := by
  intro e
  have := Lib.decDigits_length n
  have := Lib.nDigits_pos n
  rw [e] at *; simp at *; omega
theorem atoi_dec {n : Nat} (h : n < 9223372036854775808) : Lib.atoiAll (Lib.decDigits n) = .ok (n : Int) := by
  have h1 := pu_dec n h
  have h2 := dec_digs n
  have h3 := dec_ne n
  generalize Lib.decDigits n = l at *
  cases l with
  | nil => exact absurd rfl h3
  | cons c r =>
    have hc := h2 c List.mem_cons_self
    unfold Lib.atoiAll
    dsimp only
    rw [if_neg (show ¬ (c.toNat = 43 ∨ c.toNat = 45) by omega), Lib.parseMag, if_neg h3, h1]
    dsimp only
    rw [if_neg (by omega), if_neg (by omega), if_neg (by omega)]
theorem numM_dec {n : Nat} (h : n < 9223372036854775808) : numM (dec (n : Int)) = ((n : Int), true) := by
  unfold numM atoiM
  rw [dec_list, atoi_dec h]
  dsimp only
  rw [decide_eq_true (show (0 : Int) ≤ (n : Int) by omega)]
  simp
theorem atoi_lt {l : List UInt8} {v : Int} (h : Lib.atoiAll l = .ok v) : v < 9223372036854775808 := by
  unfold Lib.atoiAll at h
  cases l with
  | nil => cases h
  | cons c r =>
    dsimp only at h
    split at h
    · cases h
    · cases h
    · rename_i u hu
      split at h
      · cases h
      · rename_i c1
        split at h
        · cases h
        · injection h with h
          split at h <;> omega
/-- what is a number is the numeral of one -/
theorem numM_is {s : ByteArray} (h : (numM s).2 = true) : ∃ n : Nat, n < 9223372036854775808 ∧ s = dec (n : Int) ∧ (numM s).1 = (n : Int) := by
  unfold numM at h ⊢
  dsimp only at h ⊢
  simp only [Bool.and_eq_true, decide_eq_true_eq, beq_iff_eq] at h
  obtain ⟨h1, h2, h3⟩ := h
  obtain ⟨n, hn⟩ := Int.eq_ofNat_of_zero_le h2
  refine ⟨n, ?_, ?_, hn⟩
  · unfold atoiM at h1 hn
    split at h1
    · rename_i v hv
      rw [hv] at hn
      have := atoi_lt hv
      dsimp only at hn
      omega
    · cases h1
    · cases h1
  · rw [Lib.toList_data, Lib.toList_data, hn] at h3
    apply ByteArray.ext
    exact Array.toList_inj.1 h3.symm
theorem numM_iff (s : ByteArray) : (numM s).2 = true ↔ ∃ n : Nat, n < 9223372036854775808 ∧ s = dec (n : Int) :=
  ⟨fun h => let ⟨n, a, b, _⟩ := numM_is h; ⟨n, a, b⟩, fun ⟨n, a, b⟩ => by rw [b, numM_dec a]⟩
/-! ### the value of digits -/
def valN (l : List UInt8) : Nat := l.foldl (fun v c => v * 10 + (c.toNat - 48)) 0
theorem valN_snoc (l : List UInt8) (c : UInt8) : valN (l ++ [c]) = valN l * 10 + (c.toNat - 48) := by unfold valN; rw [List.foldl_append]; rfl
theorem valN_dec (n : Nat) : valN (Lib.decDigits n) = n := by
  induction n using Nat.strongRecOn with
  | _ n ih =>
    by_cases c : n < 10
    · rw [Lib.decDigits_one c]
      show 0 * 10 + ((UInt8.ofNat (48 + n)).toNat - 48) = n
      rw [dig_nat c]; omega
    · rw [Lib.decDigits, dif_neg c, valN_snoc, ih (n / 10) (by omega), dig_nat (Nat.mod_lt n (by omega))]; omega
theorem valN_lt : ∀ (l : List UInt8), (∀ c ∈ l, 48 ≤ c.toNat ∧ c.toNat ≤ 57) → valN l < 10 ^ l.length := by
  intro l h
  have key : ∀ k, k ≤ l.length → valN (l.take k) < 10 ^ k := by
    intro k
    induction k with
    | zero => intro _; rw [List.take_zero]; show 0 < 1; omega
    | succ k ih =>
      intro hk
      have h1 := ih (by omega)
      have h2 := h _ (List.getElem_mem (show k < l.length by omega))
      rw [List.take_succ_eq_append_getElem (by omega), valN_snoc, Nat.pow_succ]; omega
  have := key l.length (Nat.le_refl _)
  rwa [List.take_length] at this
/-- the document's number of a text of digits: the one that is read, if it is one -/
theorem num4_eq {s : ByteArray} {n : Int} (hn : n = wrap64 (valN s.data.toList : Int)) (h0 : 0 ≤ n) : ((dec n).toList == s.toList) = (numM s).2 ∧ ((numM s).2 = true → n = (numM s).1) := by
  have hlt : n < 9223372036854775808 := by rw [hn]; unfold wrap64; omega
  obtain ⟨m, rfl⟩ := Int.eq_ofNat_of_zero_le h0
  have key : (numM s).2 = true → s = dec (m : Int) ∧ (m : Int) = (numM s).1 := fun h => by
    obtain ⟨k, k1, k2, k3⟩ := numM_is h
    have hv : valN s.data.toList = k := by rw [k2, dec_list, valN_dec]
    have : m = k := by rw [hv] at hn; unfold wrap64 at hn; omega
    subst this
    exact ⟨k2, k3.symm⟩
  refine ⟨?_, fun h => (key h).2⟩
  cases e : (numM s).2 with
  | true => rw [(key e).1]; exact beq_self_eq_true _
  | false =>
    rw [beq_eq_false_iff_ne]
    intro q
    rw [Lib.toList_data, Lib.toList_data] at q
    have hs : s = dec (m : Int) := by apply ByteArray.ext; exact Array.toList_inj.1 q.symm
    rw [hs, numM_dec (by omega)] at e
    cases e
theorem num4_neg {s : ByteArray} (hn : wrap64 (valN s.data.toList : Int) < 0) : (numM s).2 = false := by
  cases e : (numM s).2 with
  | false => rfl
  | true =>
    obtain ⟨k, k1, k2, k3⟩ := numM_is e
    have hv : valN s.data.toList = k := by rw [k2, dec_list, valN_dec]
    rw [hv] at hn; unfold wrap64 at hn; omega
theorem num4_len {s : ByteArray} (h : s.size = 0 ∨ 19 < s.size) : (numM s).2 = false := by
  cases e : (numM s).2 with
  | false => rfl
  | true =>
    obtain ⟨k, k1, k2, k3⟩ := numM_is e
    exfalso
    have h1 := dec_le (n := (k : Int)) (by omega) (k := 19) (by omega) (by rw [Int.toNat_natCast]; omega)
    rw [← k2] at h1
    rcases h with h | h
    · have : s.data.toList = [] := by
        apply List.eq_nil_of_length_eq_zero
        rw [Array.length_toList]; exact h
      rw [k2, dec_list] at this
      exact dec_ne _ this
    · omega
theorem num4_bad {s : ByteArray} {c : UInt8} {k : Nat} (h : s[k]? = some c) (hc : c.toNat < 48 ∨ 57 < c.toNat) : (numM s).2 = false := by
  cases e : (numM s).2 with
  | false => rfl
  | true =>
    obtain ⟨m, k1, k2, k3⟩ := numM_is e
    exfalso
    obtain ⟨h1, h2⟩ := getElem?_eq_some_iff.1 h
    have hm : c ∈ s.data.toList := by
      rw [← h2]
      have hkl : k < s.data.toList.length := by rw [Array.length_toList]; exact h1
      have e : s.data.toList[k] = s[k] := by simp [ByteArray.getElem_eq_getElem_data]
      rw [← e]; exact List.getElem_mem _
    rw [k2, dec_list] at hm
    have := dec_digs m c hm
    omega
/-! ### the last of a byte -/
theorem data_bang {s : ByteArray} {j : Nat} {c : UInt8} (h : s[j]? = some c) : s.data[j]! = c := by
  obtain ⟨h1, h2⟩ := getElem?_eq_some_iff.1 h
  have h3 : j < s.data.size := h1
  have e : s.data[j]? = some c := by rw [Array.getElem?_eq_getElem h3]; exact congrArg some h2
  rw [getElem!_def, e]
theorem lxi_at {s : ByteArray} {k : Nat} (hk : s[k]? = some 32) (hn : ∀ (j : Nat) (c : UInt8), k < j → s[j]? = some c → c ≠ 32) : Lib.lastIndexByte s 32 = (k : Int) := by
  have hsz : k < s.size := (getElem?_eq_some_iff.1 hk).1
  have hv : ((s.data[k]!).toNat : Int) = 32 := by rw [data_bang hk]; rfl
  rcases Lib.lastIndexByte_spec s 32 with ⟨h1, h2⟩ | ⟨i, h1, h2, h3, h4⟩
  · exact absurd hv (h2 k hsz)
  · rw [h2]
    rcases Nat.lt_trichotomy i k with q | q | q
    · exact absurd hv (h4 k q hsz)
    · rw [q]
    · exfalso
      have e : s[i]? = some s[i] := getElem?_pos s i h1
      refine hn i _ q e ?_
      rw [data_bang e] at h3
      exact UInt8.toNat_inj.1 (by show _ = 32; omega)
theorem lxi_no {s : ByteArray} (hn : ∀ (j : Nat) (c : UInt8), s[j]? = some c → c ≠ 32) : Lib.lastIndexByte s 32 = -1 := by
  rcases Lib.lastIndexByte_spec s 32 with ⟨h1, h2⟩ | ⟨i, h1, h2, h3, h4⟩
  · exact h1
  · exfalso
    have e : s[i]? = some s[i] := getElem?_pos s i h1
    refine hn i _ e ?_
    rw [data_bang e] at h3
    exact UInt8.toNat_inj.1 (by show _ = 32; omega)
end Go.Proofs.YtjpfmbffiagjgaaGreatDoor
/- plain: a text cut at a byte; the document's line, its Open -/
set_option linter.all false
set_option maxRecDepth 100000
namespace Go.Proofs.YtjpfmbffiagjgaaGreatDoor
open Go.RowKit Go.Shelf Pl
/-- what stands between the bytes c; cur: what was read of a piece -/
def pcsA (c : UInt8) (cur : List UInt8) : List UInt8 → List (List UInt8)
  | [] => [cur]
  | b :: l => if b = c then cur :: pcsA c [] l else pcsA c (cur ++ [b]) l
def pcs (c : UInt8) (l : List UInt8) : List (List UInt8) := pcsA c [] l
theorem idx_at (c : UInt8) : ∀ (cur l : List UInt8), ¬ c ∈ cur → Lib.indexByte (cur ++ c :: l) c = (cur.length : Int)
  | [], l, _ => by show Lib.indexByte (c :: l) c = _; unfold Lib.indexByte; simp
  | b :: cur, l, h => by
    have hb : b ≠ c := fun e => h (by rw [e]; exact List.mem_cons_self)
    have i := idx_at c cur l fun q => h (List.mem_cons_of_mem _ q)
    show Lib.indexByte (b :: (cur ++ c :: l)) c = _
    unfold Lib.indexByte
    rw [i, if_neg (by simpa using hb), if_neg (by simp), List.length_cons]; omega
theorem idx_no (c : UInt8) : ∀ (l : List UInt8), ¬ c ∈ l → Lib.indexByte l c = -1
  | [], _ => rfl
  | b :: l, h => by
    have hb : b ≠ c := fun e => h (by rw [e]; exact List.mem_cons_self)
    unfold Lib.indexByte
    rw [idx_no c l fun q => h (List.mem_cons_of_mem _ q), if_neg (by simpa using hb), if_pos (by decide)]
theorem cnt_no (c : UInt8) (l m : List UInt8) (h : ¬ c ∈ l) : Lib.count (l ++ m) [c] = Lib.count m [c] := by
  induction l with
  | nil => rfl
  | cons b l ih =>
    rw [List.cons_append, Lib.count_cons_ne b c _ (fun e => h (by rw [e]; exact List.mem_cons_self)), ih fun q => h (List.mem_cons_of_mem _ q)]
theorem split_pcs (c : UInt8) : ∀ (l cur : List UInt8), ¬ c ∈ cur → Lib.splitK [c] 0 (Lib.count (cur ++ l) [c]) (cur ++ l) = pcsA c cur l
  | [], cur, h => by
    rw [List.append_nil]
    show _ = [cur]
    have := idx_no c cur h
    cases hk : Lib.count cur [c] with
    | zero => rfl
    | succ k => unfold Lib.splitK; rw [Lib.index_one, this, if_pos (by decide)]
  | b :: l, cur, h => by
    by_cases e : b = c
    · subst e
      have h1 : pcsA b cur (b :: l) = cur :: pcsA b [] l := by rw [pcsA, if_pos rfl]
      have i := split_pcs b l [] (by simp)
      rw [List.nil_append] at i
      rw [h1, cnt_no b cur _ h, Lib.count_cons_eq, Nat.add_comm 1, ← i]
      show (if Lib.index (cur ++ b :: l) [b] == -1 then _ else _) = _
      rw [Lib.index_one, idx_at b cur l h, if_neg (by simp), Int.toNat_natCast, Nat.add_zero]
      congr 1
      · simp
      · congr 1
        rw [List.drop_append, List.drop_eq_nil_of_le (by simp)]
        simp
    · have h1 : pcsA c cur (b :: l) = pcsA c (cur ++ [b]) l := by rw [pcsA, if_neg e]
      have h2 : cur ++ b :: l = (cur ++ [b]) ++ l := by simp
      rw [h1, h2]
      refine split_pcs c l (cur ++ [b]) fun q => ?_
      rcases List.mem_append.1 q with q | q
      · exact h q
      · exact e (List.mem_singleton.1 q).symm
theorem wds_pcs (s : ByteArray) : (wdsB s).map (fun x => x.data.toList) = pcs 32 s.data.toList := by
  unfold wdsB
  rw [Lib.splitB_data]
  exact split_pcs 32 s.data.toList [] (by simp)
theorem wds_eq (s : ByteArray) : wdsB s = (pcs 32 s.data.toList).map fun x => (⟨x.toArray⟩ : ByteArray) := by
  rw [← wds_pcs, List.map_map]
  conv => lhs; rw [← List.map_id (wdsB s)]
  apply List.map_congr_left
  intro x _
  show x = (⟨x.data.toList.toArray⟩ : ByteArray)
  rw [Array.toArray_toList]
theorem pcsA_ne (c : UInt8) : ∀ (l cur : List UInt8), ∃ x r, pcsA c cur l = x :: r
  | [], cur => ⟨cur, [], rfl⟩
  | b :: l, cur => by
    unfold pcsA
    by_cases e : b = c
    · rw [if_pos e]; exact ⟨_, _, rfl⟩
    · rw [if_neg e]; exact pcsA_ne c l _
/-! ### the document's line -/
def lnRes4 (x : RbT) (w0 : ByteArray) : Option (List Int) → Option (RbT × Int)
  | none => some (x, 2)
  | some l => if l.length = 2 then (if (w0.toList == ([106] : List UInt8)) = true then mJ4 x (l.getD 0 0) (l.getD 1 0) else if (w0.toList == ([99] : List UInt8)) = true then mC4 x (l.getD 0 0) (l.getD 1 0) else some (x, 2)) else some (x, 2)
def mL4 (x : RbT) (l : ByteArray) : Option (RbT × Int) :=
  if l.size < 1000000 then
    (if Lib.lastIndexByte l 32 < 0 then some (x, 2)
     else if (numM (tailB l)).2 = true then
      (if (numM (tailB l)).1 = ((bsm (bodyB l).data.toList 0 % 9973 : Nat) : Int) then lnRes4 x ((wdsB (bodyB l)).getD 0 ByteArray.empty) (lnNums (wdsB (bodyB l)).tail []) else some (x, 6))
     else some (x, 2))
  else none
theorem line_rel {x : RbT} {b : BkT} (h : RRel x b) (l : ByteArray) (hl : l.size < 1000000) : ∃ e x' b', mLine b l = some (e, b') ∧ mL4 x l = some (x', e) ∧ RRel x' b' ∧ (e = 0 → b'.2.2 = b.2.2 + 1) ∧ (e ≠ 0 → b' = b ∧ x' = x) := by
  have bad : ∀ e : Int, e ≠ 0 → ∃ e' x' b', some (e, b) = some (e', b') ∧ some (x, e) = some (x', e') ∧ RRel x' b' ∧ (e' = 0 → b'.2.2 = b.2.2 + 1) ∧ (e' ≠ 0 → b' = b ∧ x' = x) := fun e he => ⟨e, x, b, rfl, rfl, h, fun q => absurd q he, fun _ => ⟨rfl, rfl⟩⟩
  unfold mLine mL4
  rw [if_pos ⟨h.inv.ok, hl⟩, if_pos hl]
  by_cases c1 : Lib.lastIndexByte l 32 < 0
  · rw [if_pos c1, if_pos c1]; exact bad 2 (by decide)
  rw [if_neg c1, if_neg c1]
  by_cases c2 : (numM (tailB l)).2 = true
  case neg => rw [if_neg c2, if_neg c2]; exact bad 2 (by decide)
  rw [if_pos c2, if_pos c2]
  by_cases c3 : (numM (tailB l)).1 = ((bsm (bodyB l).data.toList 0 % 9973 : Nat) : Int)
  case neg => rw [if_neg c3, if_neg c3]; exact bad 6 (by decide)
  rw [if_pos c3, if_pos c3]
  generalize lnNums (wdsB (bodyB l)).tail [] = ns
  generalize (wdsB (bodyB l)).getD 0 ByteArray.empty = w0
  cases ns with
  | none => exact bad 2 (by decide)
  | some q =>
    unfold lnRes lnRes4
    dsimp only
    by_cases c4 : q.length = 2
    case neg => rw [if_neg c4, if_neg c4]; exact bad 2 (by decide)
    rw [if_pos c4, if_pos c4]
    by_cases c5 : (w0.toList == ([106] : List UInt8)) = true
    · rw [if_pos c5, if_pos c5]; exact join_rel h _ _
    rw [if_neg c5, if_neg c5]
    by_cases c6 : (w0.toList == ([99] : List UInt8)) = true
    · rw [if_pos c6, if_pos c6]; exact cut_rel h _ _
    rw [if_neg c6, if_neg c6]; exact bad 2 (by decide)
/-! ### the document's Open -/
abbrev rb0 : RbT := ([], (⟨#[]⟩ : ByteArray), 0)
/-- pieces read, but for the last one -/
def opD : List (List UInt8) → RbT → Nat → Option (RbT × Int × Int)
  | [], x, n => some (x, (n : Int), 0)
  | [_], x, n => some (x, (n : Int), 0)
  | p :: q :: r, x, n => (mL4 x ⟨p.toArray⟩).bind fun y => if y.2 = 0 then opD (q :: r) y.1 (n + 1) else some (rb0, ((n + 1 : Nat) : Int), y.2)
def mO4 (t : ByteArray) : Option (RbT × Int × Int) := if 2000 < t.size then some (rb0, 0, 4) else opD (pcs 10 t.data.toList) rb0 0
theorem pcs_row : ∀ (p t cur : List UInt8), ¬ (10 : UInt8) ∈ p → pcsA 10 cur (p ++ 10 :: t) = (cur ++ p) :: pcs 10 t
  | [], t, cur, _ => by show pcsA 10 cur (10 :: t) = _; rw [pcsA, if_pos rfl, List.append_nil]; rfl
  | b :: p, t, cur, h => by
    have hb : b ≠ 10 := fun e => h (by rw [e]; exact List.mem_cons_self)
    show pcsA 10 cur (b :: (p ++ 10 :: t)) = _
    rw [pcsA, if_neg hb, pcs_row p t (cur ++ [b]) fun q => h (List.mem_cons_of_mem _ q)]
    simp
theorem pcs_torn : ∀ (p cur : List UInt8), ¬ (10 : UInt8) ∈ p → pcsA 10 cur p = [cur ++ p]
  | [], cur, _ => by show [cur] = _; simp
  | b :: p, cur, h => by
    have hb : b ≠ 10 := fun e => h (by rw [e]; exact List.mem_cons_self)
    rw [pcsA, if_neg hb, pcs_torn p (cur ++ [b]) fun q => h (List.mem_cons_of_mem _ q)]
    simp
theorem row_or (l : List UInt8) : (¬ (10 : UInt8) ∈ l) ∨ ∃ p t, l = p ++ 10 :: t ∧ ¬ (10 : UInt8) ∈ p := by
  induction l with
  | nil => exact .inl (by simp)
  | cons b l ih =>
    by_cases e : b = 10
    · exact .inr ⟨[], l, by rw [e]; rfl, by simp⟩
    · rcases ih with h | ⟨p, t, h1, h2⟩
      · exact .inl fun q => by
          rcases List.mem_cons.1 q with q | q
          · exact e q.symm
          · exact h q
      · refine .inr ⟨b :: p, t, by rw [h1]; rfl, fun q => ?_⟩
        rcases List.mem_cons.1 q with q | q
        · exact e q.symm
        · exact h2 q
theorem open_rel : ∀ (F : Nat) (x : RbT) (b : BkT) (t : ByteArray) (n : Nat), RRel x b → b.2.2 = (n : Int) → t.size < F → t.size < 1000000 →
    ∃ e m b' x', opL F b t = some (e, m, b') ∧ opD (pcs 10 t.data.toList) x n = some (x', m, e) ∧ (e = 0 → RRel x' b')
  | 0, x, b, t, n, _, _, h, _ => by omega
  | F + 1, x, b, t, n, hx, hn, hF, hs => by
    rcases row_or t.data.toList with h | ⟨p, r, h1, h2⟩
    · have hp : pcs 10 t.data.toList = [t.data.toList] := by unfold pcs; rw [pcs_torn _ _ h]; rfl
      refine ⟨0, (n : Int), b, x, ?_, by rw [hp]; rfl, fun _ => hx⟩
      unfold opL
      by_cases c : t.size = 0
      · rw [if_pos c, hn]
      · rw [if_neg c]
        have g1 : (lnB t).1.data.toList = t.data.toList := by
          show (cutLn t.data.toList).1.toArray.toList = _
          rw [cut_torn _ h]
        rw [g1, suff_torn h, if_neg (by decide), hn]
    · have hp : pcs 10 t.data.toList = p :: pcs 10 r := by unfold pcs; rw [h1, pcs_row p r [] h2]; rfl
      obtain ⟨q1, q2, hq⟩ := pcsA_ne 10 r []
      have hq : pcs 10 r = q1 :: q2 := hq
      have hlen := congrArg List.length h1
      rw [bytes_len, List.length_append, List.length_cons] at hlen
      have hsz : t.size ≠ 0 := by omega
      have hc : cutLn t.data.toList = (p ++ [10], r) := by rw [h1]; exact cut_row _ _ h2
      have g1 : (lnB t).1.data.toList = p ++ [10] := by show (cutLn t.data.toList).1.toArray.toList = _; rw [hc]
      have g2 : (lnB t).2.data.toList = r := by show (cutLn t.data.toList).2.toArray.toList = _; rw [hc]
      have g3 : (lnB t).2.size = r.length := by rw [← bytes_len, g2]
      obtain ⟨e, x', b', k1, k2, k3, k4, k5⟩ := line_rel hx ⟨p.toArray⟩ (by show p.length < 1000000; omega)
      unfold opL
      rw [if_neg hsz, g1, suff_row, if_pos rfl, trim_row, k1, Option.bind_some, hp, hq]
      have hD : opD (p :: q1 :: q2) x n = if e = 0 then opD (q1 :: q2) x' (n + 1) else some (rb0, ((n + 1 : Nat) : Int), e) := by
        rw [opD, k2, Option.bind_some]
      rw [hD]
      by_cases c : e = 0
      · rw [if_pos c, if_pos c, ← hq, ← g2]
        exact open_rel F x' b' _ (n + 1) k3 (by rw [k4 c, hn]; omega) (by omega) (by omega)
      · rw [if_neg c, if_neg c]
        refine ⟨e, ((n + 1 : Nat) : Int), b', rb0, ?_, rfl, fun q => absurd q c⟩
        rw [(k5 c).1, hn]; congr 2
theorem open4_rel (t : ByteArray) : ∃ e m b' x', mOpen t = some (e, m, b') ∧ mO4 t = some (x', m, e) ∧ (e = 0 → RRel x' b') := by
  unfold mOpen mO4
  by_cases c : 2000 < t.size
  · rw [if_pos c, if_pos c]; exact ⟨4, 0, newB, rb0, rfl, rfl, fun q => by cases q⟩
  · rw [if_neg c, if_neg c]
    exact open_rel (t.size + 1) rb0 newB t 0 rrel_new rfl (by omega) (by omega)
end Go.Proofs.YtjpfmbffiagjgaaGreatDoor
