import Derived.Test.YtekfgkeimlidhaaGreatDoorOp
import Derived.Lib.Strings
/- plain: a number written in decimal, read again -/
set_option linter.all false
set_option maxRecDepth 100000
namespace Go.Proofs.YtekfgkeimlidhaaGreatDoor
open Go.RowKit Go.Shelf
theorem pu_app : ∀ (l : List UInt8) (c : UInt8) (a u : Nat), Lib.parseUint10 a l = .ok u → Lib.parseUint10 a (l ++ [c]) = Lib.parseUint10 u [c]
  | [], c, a, u, h => by
    have : a = u := by simpa [Lib.parseUint10] using h
    rw [this]; rfl
  | d :: l, c, a, u, h => by
    rw [List.cons_append]
    rw [Lib.parseUint10] at h ⊢
    by_cases h1 : 48 ≤ d.toNat ∧ d.toNat ≤ 57
    · rw [if_pos h1] at h ⊢
      by_cases h2 : 1844674407370955162 ≤ a
      · rw [if_pos h2] at h; cases h
      · rw [if_neg h2] at h ⊢
        by_cases h3 : 18446744073709551616 ≤ a * 10 + (d.toNat - 48)
        · rw [if_pos h3] at h; cases h
        · rw [if_neg h3] at h ⊢
          exact pu_app l c _ u h
    · rw [if_neg h1] at h; cases h
theorem dig_nat {i : Nat} (h : i < 10) : (UInt8.ofNat (48 + i)).toNat = 48 + i := by
  rw [UInt8.toNat_ofNat']; omega
theorem pu_dec (n : Nat) : n < 9223372036854775808 → Lib.parseUint10 0 (Lib.decDigits n) = .ok n := by
  induction n using Nat.strongRecOn with
  | _ n ih =>
    intro h
    by_cases c : n < 10
    · rw [Lib.decDigits_one c, Lib.parseUint10, dig_nat c, if_pos (by omega), if_neg (by omega), if_neg (by omega), Lib.parseUint10]
      congr 1; omega
    · have i := ih (n / 10) (by omega) (by omega)
      have hm : n % 10 < 10 := by omega
      rw [Lib.decDigits, dif_neg c, pu_app _ _ _ _ i, Lib.parseUint10, dig_nat hm, if_pos (by omega), if_neg (by omega), if_neg (by omega), Lib.parseUint10]
      congr 1; omega
theorem dec_digs (n : Nat) : ∀ c ∈ Lib.decDigits n, 48 ≤ c.toNat ∧ c.toNat ≤ 57 := by
  induction n using Nat.strongRecOn with
  | _ n ih =>
    intro c hc
    rw [Lib.decDigits] at hc
    by_cases h : n < 10
    · rw [dif_pos h] at hc
      rw [List.mem_singleton.1 hc, dig_nat h]; omega
    · rw [dif_neg h] at hc
      rcases List.mem_append.1 hc with hc | hc
      · exact ih _ (by omega) c hc
      · rw [List.mem_singleton.1 hc, dig_nat (Nat.mod_lt n (by omega))]; omega
theorem dec_list (n : Nat) : (dec (n : Int)).data.toList = Lib.decDigits n := by
  unfold dec Lib.itoa
  rw [if_neg (by omega), Int.toNat_natCast]
theorem dec_ne (n : Nat) : Lib.decDigits n ≠ [] := by
  intro e
  have := Lib.decDigits_length n
  have := Lib.nDigits_pos n
  rw [e] at *; simp at *; omega
theorem atoi_dec {n : Nat} (h : n < 9223372036854775808) : Lib.atoiAll (Lib.decDigits n) = .ok (n : Int) := by
  have h1 := pu_dec n h
  have h2 := dec_digs n
  have h3 := dec_ne n
  generalize Lib.decDigits n = l at *
  cases l with
  | nil => exact absurd rfl h3
  | cons c r =>
    have hc := h2 c List.mem_cons_self
    unfold Lib.atoiAll
    dsimp only
    rw [if_neg (show ¬ (c.toNat = 43 ∨ c.toNat = 45) by omega), Lib.parseMag, if_neg h3, h1]
    dsimp only
    rw [if_neg (by omega), if_neg (by omega), if_neg (by omega)]
theorem numM_dec {n : Nat} (h : n < 9223372036854775808) : numM (dec (n : Int)) = ((n : Int), true) := by
  unfold numM atoiM
  rw [dec_list, atoi_dec h]
  dsimp only
  rw [decide_eq_true (show (0 : Int) ≤ (n : Int) by omega)]
  simp
theorem atoi_lt {l : List UInt8} {v : Int} (h : Lib.atoiAll l = .ok v) : v < 9223372036854775808 := by
  unfold Lib.atoiAll at h
  cases l with
  | nil => cases h
  | cons c r =>
    dsimp only at h
    split at h
    · cases h
    · cases h
    · rename_i u hu
      split at h
      · cases h
      · rename_i c1
        split at h
        · cases h
        · injection h with h
          split at h <;> omega
/-- what is a number is the numeral of one -/
theorem numM_is {s : ByteArray} (h : (numM s).2 = true) : ∃ n : Nat, n < 9223372036854775808 ∧ s = dec (n : Int) ∧ (numM s).1 = (n : Int) := by
  unfold numM at h ⊢
  dsimp only at h ⊢
  simp only [Bool.and_eq_true, decide_eq_true_eq, beq_iff_eq] at h
  obtain ⟨h1, h2, h3⟩ := h
  obtain ⟨n, hn⟩ := Int.eq_ofNat_of_zero_le h2
  refine ⟨n, ?_, ?_, hn⟩
  · unfold atoiM at h1 hn
    split at h1
    · rename_i v hv
      rw [hv] at hn
      have := atoi_lt hv
      dsimp only at hn
      omega
    · cases h1
    · cases h1
  · rw [Lib.toList_data, Lib.toList_data, hn] at h3
    apply ByteArray.ext
    exact Array.toList_inj.1 h3.symm
theorem numM_iff (s : ByteArray) : (numM s).2 = true ↔ ∃ n : Nat, n < 9223372036854775808 ∧ s = dec (n : Int) :=
  ⟨fun h => let ⟨n, a, b, _⟩ := numM_is h; ⟨n, a, b⟩, fun ⟨n, a, b⟩ => by rw [b, numM_dec a]⟩
/-! ### the value of digits -/
def valN (l : List UInt8) : Nat := l.foldl (fun v c => v * 10 + (c.toNat - 48)) 0
theorem valN_snoc (l : List UInt8) (c : UInt8) : valN (l ++ [c]) = valN l * 10 + (c.toNat - 48) := by unfold valN; rw [List.foldl_append]; rfl
theorem valN_dec (n : Nat) : valN (Lib.decDigits n) = n := by
  induction n using Nat.strongRecOn with
  | _ n ih =>
    by_cases c : n < 10
    · rw [Lib.decDigits_one c]
      show 0 * 10 + ((UInt8.ofNat (48 + n)).toNat - 48) = n
      rw [dig_nat c]; omega
    · rw [Lib.decDigits, dif_neg c, valN_snoc, ih (n / 10) (by omega), dig_nat (Nat.mod_lt n (by omega))]; omega
theorem valN_lt : ∀ (l : List UInt8), (∀ c ∈ l, 48 ≤ c.toNat ∧ c.toNat ≤ 57) → valN l < 10 ^ l.length := by
  intro l h
  have key : ∀ k, k ≤ l.length → valN (l.take k) < 10 ^ k := by
    intro k
    induction k with
    | zero => intro _; rw [List.take_zero]; show 0 < 1; omega
    | succ k ih =>
      intro hk
      have h1 := ih (by omega)
      have h2 := h _ (List.getElem_mem (show k < l.length by omega))
      rw [List.take_succ_eq_append_getElem (by omega), valN_snoc, Nat.pow_succ]; omega
  have := key l.length (Nat.le_refl _)
  rwa [List.take_length] at this
/-- the document's number of a text of digits: the one that is read, if it is one -/
theorem num4_eq {s : ByteArray} {n : Int} (hn : n = wrap64 (valN s.data.toList : Int)) (h0 : 0 ≤ n) : ((dec n).toList == s.toList) = (numM s).2 ∧ ((numM s).2 = true → n = (numM s).1) := by
  have hlt : n < 9223372036854775808 := by rw [hn]; unfold wrap64; omega
  obtain ⟨m, rfl⟩ := Int.eq_ofNat_of_zero_le h0
  have key : (numM s).2 = true → s = dec (m : Int) ∧ (m : Int) = (numM s).1 := fun h => by
    obtain ⟨k, k1, k2, k3⟩ := numM_is h
    have hv : valN s.data.toList = k := by rw [k2, dec_list, valN_dec]
    have : m = k := by rw [hv] at hn; unfold wrap64 at hn; omega
    subst this
    exact ⟨k2, k3.symm⟩
  refine ⟨?_, fun h => (key h).2⟩
  cases e : (numM s).2 with
  | true => rw [(key e).1]; exact beq_self_eq_true _
  | false =>
    rw [beq_eq_false_iff_ne]
    intro q
    rw [Lib.toList_data, Lib.toList_data] at q
    have hs : s = dec (m : Int) := by apply ByteArray.ext; exact Array.toList_inj.1 q.symm
    rw [hs, numM_dec (by omega)] at e
    cases e
theorem num4_neg {s : ByteArray} (hn : wrap64 (valN s.data.toList : Int) < 0) : (numM s).2 = false := by
  cases e : (numM s).2 with
  | false => rfl
  | true =>
    obtain ⟨k, k1, k2, k3⟩ := numM_is e
    have hv : valN s.data.toList = k := by rw [k2, dec_list, valN_dec]
    rw [hv] at hn; unfold wrap64 at hn; omega
theorem num4_len {s : ByteArray} (h : s.size = 0 ∨ 19 < s.size) : (numM s).2 = false := by
  cases e : (numM s).2 with
  | false => rfl
  | true =>
    obtain ⟨k, k1, k2, k3⟩ := numM_is e
    exfalso
    have h1 := dec_le (n := (k : Int)) (by omega) (k := 19) (by omega) (by rw [Int.toNat_natCast]; omega)
    rw [← k2] at h1
    rcases h with h | h
    · have : s.data.toList = [] := by
        apply List.eq_nil_of_length_eq_zero
        rw [Array.length_toList]; exact h
      rw [k2, dec_list] at this
      exact dec_ne _ this
    · omega
theorem num4_bad {s : ByteArray} {c : UInt8} {k : Nat} (h : s[k]? = some c) (hc : c.toNat < 48 ∨ 57 < c.toNat) : (numM s).2 = false := by
  cases e : (numM s).2 with
  | false => rfl
  | true =>
    obtain ⟨m, k1, k2, k3⟩ := numM_is e
    exfalso
    obtain ⟨h1, h2⟩ := getElem?_eq_some_iff.1 h
    have hm : c ∈ s.data.toList := by
      rw [← h2]
      have hkl : k < s.data.toList.length := by rw [Array.length_toList]; exact h1
      have e : s.data.toList[k] = s[k] := by simp [ByteArray.getElem_eq_getElem_data]
      rw [← e]; exact List.getElem_mem _
    rw [k2, dec_list] at hm
    have := dec_digs m c hm
    omega
/-! ### the last of a byte -/
theorem data_bang {s : ByteArray} {j : Nat} {c : UInt8} (h : s[j]? = some c) : s.data[j]! = c := by
  obtain ⟨h1, h2⟩ := getElem?_eq_some_iff.1 h
  have h3 : j < s.data.size := h1
  have e : s.data[j]? = some c := by rw [Array.getElem?_eq_getElem h3]; exact congrArg some h2
  rw [getElem!_def, e]
theorem lxi_at {s : ByteArray} {k : Nat} (hk : s[k]? = some 32) (hn : ∀ (j : Nat) (c : UInt8), k < j → s[j]? = some c → c ≠ 32) : Lib.lastIndexByte s 32 = (k : Int) := by
  have hsz : k < s.size := (getElem?_eq_some_iff.1 hk).1
  have hv : ((s.data[k]!).toNat : Int) = 32 := by rw [data_bang hk]; rfl
  rcases Lib.lastIndexByte_spec s 32 with ⟨h1, h2⟩ | ⟨i, h1, h2, h3, h4⟩
  · exact absurd hv (h2 k hsz)
  · rw [h2]
    rcases Nat.lt_trichotomy i k with q | q | q
    · exact absurd hv (h4 k q hsz)
    · rw [q]
    · exfalso
      have e : s[i]? = some s[i] := getElem?_pos s i h1
      refine hn i _ q e ?_
      rw [data_bang e] at h3
      exact UInt8.toNat_inj.1 (by show _ = 32; omega)
theorem lxi_no {s : ByteArray} (hn : ∀ (j : Nat) (c : UInt8), s[j]? = some c → c ≠ 32) : Lib.lastIndexByte s 32 = -1 := by
  rcases Lib.lastIndexByte_spec s 32 with ⟨h1, h2⟩ | ⟨i, h1, h2, h3, h4⟩
  · exact h1
  · exfalso
    have e : s[i]? = some s[i] := getElem?_pos s i h1
    refine hn i _ e ?_
    rw [data_bang e] at h3
    exact UInt8.toNat_inj.1 (by show _ = 32; omega)
theorem row_or (l : List UInt8) : (¬ (10 : UInt8) ∈ l) ∨ ∃ p t, l = p ++ 10 :: t ∧ ¬ (10 : UInt8) ∈ p := by
  induction l with
  | nil => exact .inl (by simp)
  | cons b l ih =>
    by_cases e : b = 10
    · exact .inr ⟨[], l, by rw [e]; rfl, by simp⟩
    · rcases ih with h | ⟨p, t, h1, h2⟩
      · exact .inl fun q => by
          rcases List.mem_cons.1 q with q | q
          · exact e q.symm
          · exact h q
      · refine .inr ⟨b :: p, t, by rw [h1]; rfl, fun q => ?_⟩
        rcases List.mem_cons.1 q with q | q
        · exact e q.symm
        · exact h2 q
theorem map_bytes {P : List ByteArray} {L : List (List UInt8)} (h : P.map (fun x => x.data.toList) = L) : P = L.map fun x => (⟨x.toArray⟩ : ByteArray) := by
  rw [← h, List.map_map]
  conv => lhs; rw [← List.map_id P]
  apply List.map_congr_left
  intro x _
  show x = (⟨x.data.toList.toArray⟩ : ByteArray)
  rw [Array.toArray_toList]
end Go.Proofs.YtekfgkeimlidhaaGreatDoor
