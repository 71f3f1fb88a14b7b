import Derived.Test.YtekfgkeimlidhaaGreatDoorGR
import Derived.Test.YtekfgkeimlidhaaGreatDoorAdj
/- what the models of the document's functions come to -/
set_option linter.all false
set_option maxRecDepth 100000
namespace Go.Proofs.YtekfgkeimlidhaaGreatDoor
open Go.RowKit Pl
theorem w64 {x : Int} (h0 : -9223372036854775808 ≤ x) (h1 : x < 9223372036854775808) : wrap64 x = x := by unfold wrap64; omega
theorem w64n {k : Nat} (h : k < 9223372036854775807) : wrap64 ((k : Int) + 1) = ((k + 1 : Nat) : Int) := by rw [w64 (by omega) (by omega)]; rfl
theorem ix_at {α : Type} {l : List α} {i : Nat} (d : α) (h : i < l.length) : ix l (i : Int) = some (l.getD i d) := by
  rw [ix_nat h]; simp [List.getD_eq_getElem?_getD, h]
theorem st_nat {α : Type} {l : List α} {i : Nat} {x : α} (h : i < l.length) : st l (i : Int) x = some (l.set i x) := by
  unfold st; rw [if_pos (by omega), Int.toNat_natCast]
theorem getD_set {α : Type} (l : List α) (i j : Nat) (x d : α) (h : i < l.length) : (l.set i x).getD j d = if j = i then x else l.getD j d := by
  simp only [List.getD_eq_getElem?_getD, List.getElem?_set]
  by_cases e : i = j
  · subst e; simp [h]
  · have : ¬ j = i := fun h => e h.symm
    simp [e, this]
theorem mCheck_ev {n : Int} {l : List (Int × Int)} (hg : good n l) : mCheck n l = some (errG n l) := by unfold mCheck; rw [if_pos hg]
theorem errLines_ok {n : Int} : ∀ {l : List (Int × Int)}, (∀ p ∈ l, (0 ≤ p.1 ∧ p.1 < n ∧ 0 ≤ p.2 ∧ p.2 < n) ∧ p.1 ≠ p.2) → errLines n l = 0
  | [], _ => rfl
  | q :: l, h => by
    obtain ⟨h1, h2⟩ := h q List.mem_cons_self
    unfold errLines
    rw [if_neg (by omega), if_neg h2]
    exact errLines_ok fun p hp => h p (List.mem_cons_of_mem _ hp)
theorem errG_ok {k : Nat} {l : List (Int × Int)} (h1 : 1 ≤ k) (h8 : k ≤ 8) (h24 : l.length ≤ 24) (hin : InL k l) (hne : ∀ p ∈ l, p.1 ≠ p.2) : errG (k : Int) l = 0 := by
  unfold errG
  rw [if_neg (by omega), if_neg (by omega)]
  exact errLines_ok fun p hp => ⟨by have := hin p hp; omega, hne p hp⟩
theorem core_Within_ev (F : Nat) (n a b : Int) : core_Within F n a b = some (decide (a ≤ n ∧ n ≤ b)) := by
  unfold core_Within
  by_cases h1 : a ≤ n <;> by_cases h2 : n ≤ b <;> simp [h1, h2]
/-- all within bounds -/
def allIn (l : List Int) (a b : Int) : Bool := l.all fun x => decide (a ≤ x ∧ x ≤ b)
theorem core_All_L1_ev (F : Nat) (l : List Int) (a b : Int) (hl : l.length < 9223372036854775807) : ∀ g k, l.length < g + k → k ≤ l.length →
    core_All_L1 F l a b g (k : Int) = some (if allIn (l.drop k) a b then .inl () else .inr false)
  | 0, k, h, hk => by omega
  | g+1, k, h, hk => by
    rw [core_All_L1_s]
    by_cases hlt : k < l.length
    · rw [if_pos (by omega), ix_nat hlt, Option.bind_some, core_Within_ev, Option.bind_some, List.drop_eq_getElem_cons hlt, w64n (by omega), core_All_L1_ev F l a b hl g (k+1) (by omega) (by omega)]
      unfold allIn
      rw [List.all_cons]
      cases decide (a ≤ l[k] ∧ l[k] ≤ b) <;> simp
    · have : k = l.length := by omega
      rw [if_neg (by omega), this, List.drop_length]; rfl
theorem core_All_ev {F : Nat} {l : List Int} (a b : Int) (hF : l.length < F) (hl : l.length < 9223372036854775807) : core_All F l a b = some (allIn l a b) := by
  unfold core_All
  rw [show (0 : Int) = ((0 : Nat) : Int) from rfl, core_All_L1_ev F l a b hl F 0 (by omega) (by omega), List.drop_zero]
  cases allIn l a b <;> simp
theorem R1_Goes_L1_ev (F : Nat) (l : List (Int × Int)) (a b : Int) (hl : l.length < 9223372036854775807) : ∀ g k, l.length < g + k → k ≤ l.length →
    R1_Goes_L1 F l a b g (k : Int) = some (if goes (l.drop k) a b then .inr true else .inl (l.length : Int))
  | 0, k, h, hk => by omega
  | g+1, k, h, hk => by
    rw [R1_Goes_L1_s]
    by_cases hlt : k < l.length
    · rw [if_pos (by omega), ix_nat hlt, Option.bind_some, List.drop_eq_getElem_cons hlt, Option.bind_some, w64n (by omega), R1_Goes_L1_ev F l a b hl g (k+1) (by omega) (by omega)]
      unfold goes
      rw [List.any_cons]
      cases e1 : (l[k].1 == a) <;> cases e2 : (l[k].2 == b) <;> simp
    · have : k = l.length := by omega
      rw [if_neg (by omega), this, List.drop_length]; rfl
theorem R1_Goes_ev {F : Nat} {l : List (Int × Int)} (a b : Int) (hF : l.length < F) (hl : l.length < 9223372036854775807) : R1_Goes F l a b = some (goes l a b) := by
  unfold R1_Goes
  rw [show (0 : Int) = ((0 : Nat) : Int) from rfl, R1_Goes_L1_ev F l a b hl F 0 (by omega) (by omega), List.drop_zero]
  cases h : goes l a b <;> simp
theorem R1_Beside_ev {F : Nat} {l : List (Int × Int)} (a b : Int) (hF : l.length < F) (hl : l.length < 9223372036854775807) : R1_Beside F l a b = some (besL l a b) := by
  unfold R1_Beside besL
  rw [R1_Goes_ev a b hF hl, R1_Goes_ev b a hF hl]
  cases goes l a b <;> cases goes l b a <;> rfl
end Go.Proofs.YtekfgkeimlidhaaGreatDoor
