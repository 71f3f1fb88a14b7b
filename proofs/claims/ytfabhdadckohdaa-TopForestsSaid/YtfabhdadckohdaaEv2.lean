import Derived.Test.YtfabhdadckohdaaGR
import Derived.Test.YtfabhdadckohdaaAdj
/- what the models of the document's functions come to -/
set_option linter.all false
set_option maxRecDepth 100000
namespace Go.Proofs.Ytfabhdadckohdaa
open Go.RowKit Pl
theorem w64 {x : Int} (h0 : -9223372036854775808 ≤ x) (h1 : x < 9223372036854775808) : wrap64 x = x := by unfold wrap64; omega
theorem w64n {k : Nat} (h : k < 9223372036854775807) : wrap64 ((k : Int) + 1) = ((k + 1 : Nat) : Int) := by rw [w64 (by omega) (by omega)]; rfl
theorem ix_at {α : Type} {l : List α} {i : Nat} (d : α) (h : i < l.length) : ix l (i : Int) = some (l.getD i d) := by
  rw [ix_nat h]; simp [List.getD_eq_getElem?_getD, h]
theorem st_nat {α : Type} {l : List α} {i : Nat} {x : α} (h : i < l.length) : st l (i : Int) x = some (l.set i x) := by
  unfold st; rw [if_pos (by omega), Int.toNat_natCast]
theorem getD_set {α : Type} (l : List α) (i j : Nat) (x d : α) (h : i < l.length) : (l.set i x).getD j d = if j = i then x else l.getD j d := by
  simp only [List.getD_eq_getElem?_getD, List.getElem?_set]
  by_cases e : i = j
  · subst e; simp [h]
  · have : ¬ j = i := fun h => e h.symm
    simp [e, this]
theorem mCheck_ev {n : Int} {l : List (Int × Int)} (hg : good n l) : mCheck n l = some (errG n l) := by unfold mCheck; rw [if_pos hg]
theorem errLines_ok {n : Int} : ∀ {l : List (Int × Int)}, (∀ p ∈ l, (0 ≤ p.1 ∧ p.1 < n ∧ 0 ≤ p.2 ∧ p.2 < n) ∧ p.1 ≠ p.2) → errLines n l = 0
  | [], _ => rfl
  | q :: l, h => by
    obtain ⟨h1, h2⟩ := h q List.mem_cons_self
    unfold errLines
    rw [if_neg (by omega), if_neg h2]
    exact errLines_ok fun p hp => h p (List.mem_cons_of_mem _ hp)
theorem errG_ok {k : Nat} {l : List (Int × Int)} (h1 : 1 ≤ k) (h8 : k ≤ 8) (h24 : l.length ≤ 24) (hin : InL k l) (hne : ∀ p ∈ l, p.1 ≠ p.2) : errG (k : Int) l = 0 := by
  unfold errG
  rw [if_neg (by omega), if_neg (by omega)]
  exact errLines_ok fun p hp => ⟨by have := hin p hp; omega, hne p hp⟩
theorem mBeside_ev {k : Nat} {l : List (Int × Int)} (hg : good (k : Int) l) (he : errG (k : Int) l = 0) : mBeside (k : Int) l = some (besM k l) := by unfold mBeside; rw [if_pos ⟨hg, he⟩, Int.toNat_natCast]
theorem R1_in_ev (F : Nat) (n a b : Int) : R1_in F n a b = some (decide (a ≤ n ∧ n ≤ b)) := by
  unfold R1_in
  by_cases h1 : a ≤ n <;> by_cases h2 : n ≤ b <;> simp [h1, h2]
theorem core_Within_ev (F : Nat) (n a b : Int) : core_Within F n a b = some (decide (a ≤ n ∧ n ≤ b)) := by
  unfold core_Within
  by_cases h1 : a ≤ n <;> by_cases h2 : n ≤ b <;> simp [h1, h2]
/-- all within bounds -/
def allIn (l : List Int) (a b : Int) : Bool := l.all fun x => decide (a ≤ x ∧ x ≤ b)
theorem core_All_L1_ev (F : Nat) (l : List Int) (a b : Int) (hl : l.length < 9223372036854775807) : ∀ g k, l.length < g + k → k ≤ l.length →
    core_All_L1 F l a b g (k : Int) = some (if allIn (l.drop k) a b then .inl () else .inr false)
  | 0, k, h, hk => by omega
  | g+1, k, h, hk => by
    rw [core_All_L1_s]
    by_cases hlt : k < l.length
    · rw [if_pos (by omega), ix_nat hlt, Option.bind_some, core_Within_ev, Option.bind_some, List.drop_eq_getElem_cons hlt, w64n (by omega), core_All_L1_ev F l a b hl g (k+1) (by omega) (by omega)]
      unfold allIn
      rw [List.all_cons]
      cases decide (a ≤ l[k] ∧ l[k] ≤ b) <;> simp
    · have : k = l.length := by omega
      rw [if_neg (by omega), this, List.drop_length]; rfl
theorem core_All_ev {F : Nat} {l : List Int} (a b : Int) (hF : l.length < F) (hl : l.length < 9223372036854775807) : core_All F l a b = some (allIn l a b) := by
  unfold core_All
  rw [show (0 : Int) = ((0 : Nat) : Int) from rfl, core_All_L1_ev F l a b hl F 0 (by omega) (by omega), List.drop_zero]
  cases allIn l a b <;> simp
theorem R1_All_L1_ev (F : Nat) (l : List Int) (a b : Int) (hl : l.length < 9223372036854775807) : ∀ g k, l.length < g + k → k ≤ l.length →
    R1_All_L1 F l a b g (k : Int) = some (if allIn (l.drop k) a b then .inl (l.length : Int) else .inr false)
  | 0, k, h, hk => by omega
  | g+1, k, h, hk => by
    rw [R1_All_L1_s]
    by_cases hlt : k < l.length
    · rw [if_pos (by omega), ix_nat hlt, Option.bind_some, R1_in_ev, Option.bind_some, List.drop_eq_getElem_cons hlt, w64n (by omega), R1_All_L1_ev F l a b hl g (k+1) (by omega) (by omega)]
      unfold allIn
      rw [List.all_cons]
      cases decide (a ≤ l[k] ∧ l[k] ≤ b) <;> simp
    · have : k = l.length := by omega
      rw [if_neg (by omega), this, List.drop_length]; rfl
theorem R1_All_ev {F : Nat} {l : List Int} (a b : Int) (hF : l.length < F) (hl : l.length < 9223372036854775807) : R1_All F l a b = some (allIn l a b) := by
  unfold R1_All
  rw [show (0 : Int) = ((0 : Nat) : Int) from rfl, R1_All_L1_ev F l a b hl F 0 (by omega) (by omega), List.drop_zero]
  cases allIn l a b <;> simp
theorem R1_Has_L1_ev (F : Nat) (l : List Int) (n : Int) (hl : l.length < 9223372036854775807) : ∀ g k, l.length < g + k → k ≤ l.length →
    R1_Has_L1 F l n g (k : Int) = some (if n ∈ l.drop k then .inr true else .inl (l.length : Int))
  | 0, k, h, hk => by omega
  | g+1, k, h, hk => by
    rw [R1_Has_L1_s]
    by_cases hlt : k < l.length
    · have hd := List.drop_eq_getElem_cons hlt
      rw [if_pos (by omega), ix_nat hlt, Option.bind_some]
      by_cases e : l[k] = n
      · rw [if_pos (by simpa using e), if_pos (by rw [hd, e]; exact List.mem_cons_self)]
      · rw [if_neg (by simpa using e), w64n (by omega), R1_Has_L1_ev F l n hl g (k+1) (by omega) (by omega), hd]
        have : (n ∈ l[k] :: l.drop (k+1)) ↔ n ∈ l.drop (k+1) := by
          rw [List.mem_cons]; exact ⟨fun h => h.resolve_left (Ne.symm e), .inr⟩
        by_cases hm : n ∈ l.drop (k+1)
        · rw [if_pos hm, if_pos (this.2 hm)]
        · rw [if_neg hm, if_neg (fun h => hm (this.1 h))]
    · have : k = l.length := by omega
      rw [if_neg (by omega), this, List.drop_length]; rfl
theorem R1_Has_ev {F : Nat} {l : List Int} (n : Int) (hF : l.length < F) (hl : l.length < 9223372036854775807) : R1_Has F l n = some (decide (n ∈ l)) := by
  unfold R1_Has
  rw [show (0 : Int) = ((0 : Nat) : Int) from rfl, R1_Has_L1_ev F l n hl F 0 (by omega) (by omega), List.drop_zero]
  by_cases h : n ∈ l <;> simp [h]
theorem R1_Goes_L1_ev (F : Nat) (l : List (Int × Int)) (a b : Int) (hl : l.length < 9223372036854775807) : ∀ g k, l.length < g + k → k ≤ l.length →
    R1_Goes_L1 F l a b g (k : Int) = some (if goes (l.drop k) a b then .inr true else .inl (l.length : Int))
  | 0, k, h, hk => by omega
  | g+1, k, h, hk => by
    rw [R1_Goes_L1_s]
    by_cases hlt : k < l.length
    · rw [if_pos (by omega), ix_nat hlt, Option.bind_some, List.drop_eq_getElem_cons hlt, Option.bind_some, w64n (by omega), R1_Goes_L1_ev F l a b hl g (k+1) (by omega) (by omega)]
      unfold goes
      rw [List.any_cons]
      cases e1 : (l[k].1 == a) <;> cases e2 : (l[k].2 == b) <;> simp
    · have : k = l.length := by omega
      rw [if_neg (by omega), this, List.drop_length]; rfl
theorem R1_Goes_ev {F : Nat} {l : List (Int × Int)} (a b : Int) (hF : l.length < F) (hl : l.length < 9223372036854775807) : R1_Goes F l a b = some (goes l a b) := by
  unfold R1_Goes
  rw [show (0 : Int) = ((0 : Nat) : Int) from rfl, R1_Goes_L1_ev F l a b hl F 0 (by omega) (by omega), List.drop_zero]
  cases h : goes l a b <;> simp
theorem R1_Lines_L1_ev (F : Nat) (n : Int) (l : List (Int × Int)) (h1 : 1 ≤ n) (h8 : n ≤ 8) (hl : l.length < 9223372036854775807) : ∀ g k, l.length < g + k → k ≤ l.length →
    R1_Lines_L1 F n l g (k : Int) = some (if errLines n (l.drop k) = 0 then .inl (l.length : Int) else .inr (errLines n (l.drop k)))
  | 0, k, h, hk => by omega
  | g+1, k, h, hk => by
    rw [R1_Lines_L1_s]
    by_cases hlt : k < l.length
    · rw [if_pos (by omega), ix_nat hlt]
      simp only [Option.bind_some, R1_in_ev]
      rw [w64n (by omega), R1_Lines_L1_ev F n l h1 h8 hl g (k+1) (by omega) (by omega), errLines_drop n l k hlt, w64 (by omega) (by omega)]
      by_cases e1 : 0 ≤ l[k].1 ∧ l[k].1 ≤ n - 1
      · by_cases e2 : 0 ≤ l[k].2 ∧ l[k].2 ≤ n - 1
        · by_cases e3 : l[k].1 = l[k].2
          · have : (l[k].1 == l[k].2) = true := by simpa using e3
            simp only [e1, e2, this]; simp [e3]
          · have : (l[k].1 == l[k].2) = false := by simpa using e3
            simp only [e1, e2, this]; simp [e3]
        · simp only [e1, e2]; simp
      · simp only [e1]; simp
    · have : k = l.length := by omega
      rw [if_neg (by omega), this, List.drop_length]; rfl
theorem R1_Lines_ev {F : Nat} {n : Int} {l : List (Int × Int)} (hF : l.length < F) (hl : l.length < 9223372036854775807) : R1_Lines F n l = some (errG n l) := by
  unfold R1_Lines errG
  rw [R1_in_ev, Option.bind_some]
  by_cases h : 1 ≤ n ∧ n ≤ 8
  · rw [if_pos (by simpa using h), if_neg (c := ¬ (1 ≤ n ∧ n ≤ 8)) (fun hh => hh h)]
    by_cases h24 : 24 < l.length
    · rw [if_pos (by omega), if_pos h24]
    · rw [if_neg (by omega), if_neg h24, show (0 : Int) = ((0 : Nat) : Int) from rfl, R1_Lines_L1_ev F n l h.1 h.2 hl F 0 (by omega) (by omega), List.drop_zero]
      by_cases e : errLines n l = 0 <;> simp [e]
  · rw [if_neg (by simpa using h), if_pos h]
/-- also where there are many lines -/
theorem R1_Lines_big {F : Nat} {n : Int} {l : List (Int × Int)} (hF : 30 < F) : R1_Lines F n l = some (errG n l) := by
  by_cases h24 : 24 < l.length
  · unfold R1_Lines errG
    rw [R1_in_ev, Option.bind_some]
    by_cases h : 1 ≤ n ∧ n ≤ 8
    · rw [if_pos (by simpa using h), if_neg (c := ¬ (1 ≤ n ∧ n ≤ 8)) (fun hh => hh h), if_pos (by omega), if_pos h24]
    · rw [if_neg (by simpa using h), if_pos h]
  · exact R1_Lines_ev (by omega) (by omega)
theorem SE_Ints_L1_ev (F : Nat) (a b : List Int) (hab : a.length = b.length) (hl : a.length < 9223372036854775807) : ∀ g k, a.length < g + k → k ≤ a.length →
    SE_Ints_L1 F a b g (k : Int) = some (if a.drop k = b.drop k then .inl (a.length : Int) else .inr false)
  | 0, k, h, hk => by omega
  | g+1, k, h, hk => by
    rw [SE_Ints_L1_s]
    by_cases hlt : k < a.length
    · have hlb : k < b.length := by omega
      rw [if_pos (by omega), ix_nat hlt, Option.bind_some, ix_nat hlb, Option.bind_some, List.drop_eq_getElem_cons hlt, List.drop_eq_getElem_cons hlb, w64n (by omega)]
      by_cases e : a[k] = b[k]
      · rw [if_neg (by simpa using e), SE_Ints_L1_ev F a b hab hl g (k+1) (by omega) (by omega)]
        by_cases h2 : a.drop (k+1) = b.drop (k+1)
        · rw [if_pos h2, if_pos (by rw [e, h2])]
        · rw [if_neg h2, if_neg (fun h => h2 (List.cons.inj h).2)]
      · rw [if_pos (by simpa using e), if_neg (fun h => e (List.cons.inj h).1)]
    · have : k = a.length := by omega
      rw [if_neg (by omega), this, List.drop_length, hab, List.drop_length]; rfl
theorem SE_Ints_ev {F : Nat} {a b : List Int} (hF : a.length < F) (hl : a.length < 9223372036854775807) : SE_Ints F a b = some (decide (a = b)) := by
  unfold SE_Ints
  by_cases hab : a.length = b.length
  · rw [if_neg (by simp [hab]), show (0 : Int) = ((0 : Nat) : Int) from rfl, SE_Ints_L1_ev F a b hab hl F 0 (by omega) (by omega), List.drop_zero, List.drop_zero]
    by_cases e : a = b <;> simp [e]
  · have : a ≠ b := fun e => hab (by rw [e])
    rw [if_pos (by simp; omega)]; simp [this]
theorem R3_Member_ev : ∀ m : Nat, m < 256 → ∀ i : Nat, i < 10 → R3_Member 300 (m : Int) (i : Int) = some (m.testBit i) := by decide +kernel
theorem R3_Members_ev : ∀ m : Nat, m < 256 → R3_Members 300 (m : Int) = some ((memb m).map Int.ofNat) := by decide +kernel
theorem R3_Power_ev : ∀ k : Nat, k ≤ 8 → R3_Power 300 (k : Int) = some ((2 ^ k : Nat) : Int) := by decide +kernel
end Go.Proofs.Ytfabhdadckohdaa
