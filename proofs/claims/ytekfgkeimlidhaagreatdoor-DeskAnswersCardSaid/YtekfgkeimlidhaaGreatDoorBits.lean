import Derived.WalkKit
/- bit sets as natural numbers -/
set_option linter.all false
set_option maxRecDepth 100000
namespace Go.Proofs.YtekfgkeimlidhaaGreatDoor.Pl
open Go
theorem wrap_u64 {n : Int} (h0 : 0 ≤ n) (h : n < 18446744073709551616) : IntKind.u64.wrap n = n := by
  simp only [IntKind.wrap, IntKind.bits, IntKind.signed]
  simp
  omega
theorem bv (a : Nat) (h : a < 18446744073709551616) : (BitVec.ofInt 64 (a : Int)).toNat = a := by
  rw [BitVec.ofInt_natCast, BitVec.toNat_ofNat]; exact Nat.mod_eq_of_lt h
theorem bits_and (a b : Nat) (ha : a < 18446744073709551616) (hb : b < 18446744073709551616) : bits .and .u64 a b = ((a &&& b : Nat) : Int) := by
  show IntKind.u64.wrap (((BitVec.ofInt 64 (a : Int) &&& BitVec.ofInt 64 (b : Int)).toNat : Nat) : Int) = _
  rw [BitVec.toNat_and, bv a ha, bv b hb]
  exact wrap_u64 (by omega) (by have := @Nat.and_le_left a b; omega)
theorem bits_or (a b : Nat) (ha : a < 18446744073709551616) (hb : b < 18446744073709551616) : bits .or .u64 a b = ((a ||| b : Nat) : Int) := by
  show IntKind.u64.wrap (((BitVec.ofInt 64 (a : Int) ||| BitVec.ofInt 64 (b : Int)).toNat : Nat) : Int) = _
  rw [BitVec.toNat_or, bv a ha, bv b hb]
  have := @Nat.or_lt_two_pow a b 64 ha hb
  exact wrap_u64 (by omega) (by omega)
/-- difference of two sets -/
def ndiff (a b : Nat) : Nat := a ^^^ (a &&& b)
theorem ndiff_testBit (a b i : Nat) : (ndiff a b).testBit i = (a.testBit i && !b.testBit i) := by
  unfold ndiff
  rw [Nat.testBit_xor, Nat.testBit_and]
  cases a.testBit i <;> cases b.testBit i <;> rfl
theorem ndiff_le (a b : Nat) : ndiff a b ≤ a := by
  have h : ndiff a b = ndiff a b &&& a := by
    apply Nat.eq_of_testBit_eq; intro i
    rw [Nat.testBit_and, ndiff_testBit]
    cases a.testBit i <;> simp
  rw [h]; exact Nat.and_le_right
theorem bits_andNot (a b : Nat) (ha : a < 18446744073709551616) (hb : b < 18446744073709551616) : bits .andNot .u64 a b = ((ndiff a b : Nat) : Int) := by
  show IntKind.u64.wrap (((BitVec.ofInt 64 (a : Int) &&& ~~~ BitVec.ofInt 64 (b : Int)).toNat : Nat) : Int) = _
  have e : (BitVec.ofInt 64 (a : Int) &&& ~~~ BitVec.ofInt 64 (b : Int)).toNat = ndiff a b := by
    apply Nat.eq_of_testBit_eq; intro i
    rw [ndiff_testBit, BitVec.testBit_toNat, BitVec.getLsbD_and, BitVec.getLsbD_not, ← BitVec.testBit_toNat, ← BitVec.testBit_toNat, bv a ha, bv b hb]
    by_cases hi : i < 64
    · simp [hi]
    · have : a.testBit i = false := Nat.testBit_lt_two_pow (Nat.lt_of_lt_of_le ha (by
        show 2 ^ 64 ≤ 2 ^ i
        exact Nat.pow_le_pow_right (by omega) (by omega)))
      simp [this]
  rw [e]
  have := ndiff_le a b
  exact wrap_u64 (by omega) (by omega)
theorem bits_xor (a b : Nat) (ha : a < 18446744073709551616) (hb : b < 18446744073709551616) : bits .xor .u64 a b = ((a ^^^ b : Nat) : Int) := by
  show IntKind.u64.wrap (((BitVec.ofInt 64 (a : Int) ^^^ BitVec.ofInt 64 (b : Int)).toNat : Nat) : Int) = _
  rw [BitVec.toNat_xor, bv a ha, bv b hb]
  have := @Nat.xor_lt_two_pow a b 64 ha hb
  exact wrap_u64 (by omega) (by omega)
theorem pow_u64 (i : Nat) (h : i < 64) : IntKind.u64.wrap ((2 : Int) ^ i) = ((2 ^ i : Nat) : Int) ∧ 2 ^ i < 18446744073709551616 := by
  have h1 : 2 ^ i < 2 ^ 64 := Nat.pow_lt_pow_right (by omega) h
  have e : ((2 : Int) ^ i) = ((2 ^ i : Nat) : Int) := by norm_cast
  refine ⟨?_, h1⟩
  rw [e]; exact wrap_u64 (Int.natCast_nonneg _) (Int.ofNat_lt.2 h1)
theorem testBit_div (m i : Nat) : (m / 2 ^ i % 2 == 1) = m.testBit i := by
  rw [Nat.testBit_eq_decide_div_mod_eq]; rfl
theorem bits_has (m i : Nat) (hm : m < 18446744073709551616) : (bits .and .u64 ((m : Int) / 2 ^ i) 1 == 1) = m.testBit i := by
  have e : ((m : Int) / 2 ^ i) = ((m / 2 ^ i : Nat) : Int) := by norm_cast
  have h1 : m / 2 ^ i ≤ m := Nat.div_le_self _ _
  rw [e, show (1 : Int) = ((1 : Nat) : Int) from rfl, bits_and _ 1 (by omega) (by omega), Nat.and_one_is_mod, ← testBit_div, Bool.eq_iff_iff]
  simp
  omega
/-- the points of a set below k, rising -/
def memb (m : Nat) : List Nat := (List.range 16).filter fun i => m.testBit i
theorem mem_memb {m i : Nat} (hm : m < 65536) : i ∈ memb m ↔ m.testBit i = true := by
  unfold memb
  rw [List.mem_filter, List.mem_range]
  refine ⟨fun h => h.2, fun h => ⟨?_, h⟩⟩
  rcases Nat.lt_or_ge i 16 with h1 | h1
  · exact h1
  · have : m.testBit i = false := Nat.testBit_lt_two_pow (Nat.lt_of_lt_of_le hm (by
      show 2 ^ 16 ≤ 2 ^ i
      exact Nat.pow_le_pow_right (by omega) h1))
    rw [this] at h; cases h
/-- the points of a set from 0 to k-1 -/
def membTo (m k : Nat) : List Nat := (List.range k).filter fun i => m.testBit i
theorem membTo_succ (m k : Nat) : membTo m (k+1) = membTo m k ++ if m.testBit k then [k] else [] := by
  unfold membTo
  rw [List.range_succ, List.filter_append]
  congr 1
  cases h : m.testBit k <;> simp [h]
theorem membTo_full {m k : Nat} (hm : m < 65536) (h : m / 2 ^ k = 0) (hk : k ≤ 16) : membTo m k = memb m := by
  unfold membTo memb
  have e : List.range 16 = List.range k ++ (List.range (16 - k)).map (k + ·) := by
    rw [← List.range_add]; congr 1; omega
  rw [e, List.filter_append]
  have : ((List.range (16 - k)).map (k + ·)).filter (fun i => m.testBit i) = [] := by
    rw [List.filter_eq_nil_iff]
    intro x hx
    obtain ⟨y, _, rfl⟩ := List.mem_map.1 hx
    have h2 : m < 2 ^ k := by
      rcases Nat.div_eq_zero_iff.1 h with h3 | h3
      · exact absurd h3 (Nat.ne_of_gt (Nat.two_pow_pos k))
      · exact h3
    have := Nat.testBit_lt_two_pow (x := m) (i := k + y) (Nat.lt_of_lt_of_le h2 (Nat.pow_le_pow_right (by omega) (by omega)))
    simp [this]
  rw [this, List.append_nil]
theorem div_pow_zero {m k : Nat} (hm : m < 65536) (hk : 16 ≤ k) : m / 2 ^ k = 0 := by
  apply Nat.div_eq_of_lt
  exact Nat.lt_of_lt_of_le hm (by show 2 ^ 16 ≤ 2 ^ k; exact Nat.pow_le_pow_right (by omega) hk)
end Go.Proofs.YtekfgkeimlidhaaGreatDoor.Pl
