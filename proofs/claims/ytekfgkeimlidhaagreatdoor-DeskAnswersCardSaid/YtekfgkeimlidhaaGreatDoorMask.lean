import Derived.Test.YtekfgkeimlidhaaGreatDoorBits
/- rows of sets out of lines -/
set_option linter.all false
set_option maxRecDepth 100000
namespace Go.Proofs.YtekfgkeimlidhaaGreatDoor.Pl
def setOne (s : List Nat) (a b : Nat) : List Nat := s.set a (s.getD a 0 ||| 2 ^ b)
def outTo (n : Nat) (l : List (Int × Int)) : List Nat := l.foldl (fun s p => setOne s p.1.toNat p.2.toNat) (List.replicate n 0)
def besTo (s : List Nat) (l : List (Int × Int)) : List Nat := l.foldl (fun s p => setOne s p.2.toNat p.1.toNat) s
def besM (n : Nat) (l : List (Int × Int)) : List Nat := besTo (outTo n l) l
/-- all lines lie within n points -/
def InL (n : Nat) (l : List (Int × Int)) : Prop := ∀ p ∈ l, 0 ≤ p.1 ∧ p.1 < n ∧ 0 ≤ p.2 ∧ p.2 < n
/-- n sets of points below n -/
def Row (n : Nat) (s : List Nat) : Prop := s.length = n ∧ ∀ m ∈ s, m < 2 ^ n
theorem Row.getD {n : Nat} {s : List Nat} (h : Row n s) {a : Nat} (ha : a < n) : s.getD a 0 < 2 ^ n ∧ s[a]? = some (s.getD a 0) := by
  have hl : a < s.length := by rw [h.1]; exact ha
  have e : s.getD a 0 = s[a] := by simp [List.getD, hl]
  rw [e]
  exact ⟨h.2 _ (List.getElem_mem hl), List.getElem?_eq_getElem hl⟩
theorem Row.setOne {n : Nat} {s : List Nat} (h : Row n s) {a b : Nat} (ha : a < n) (hb : b < n) : Row n (setOne s a b) := by
  refine ⟨by simp [Pl.setOne, h.1], fun m hm => ?_⟩
  rcases List.mem_or_eq_of_mem_set hm with h1 | rfl
  · exact h.2 m h1
  · exact Nat.or_lt_two_pow (h.getD ha).1 (Nat.pow_lt_pow_right (by omega) hb)
theorem Row.start (n : Nat) : Row n (List.replicate n 0) := ⟨by simp, fun m hm => by obtain ⟨_, rfl⟩ := List.mem_replicate.1 hm; exact Nat.two_pow_pos n⟩
theorem outTo_snoc (n : Nat) (l : List (Int × Int)) (k : Nat) (hk : k < l.length) : outTo n (l.take (k+1)) = setOne (outTo n (l.take k)) l[k].1.toNat l[k].2.toNat := by
  rw [List.take_succ_eq_append_getElem hk, outTo, List.foldl_append]; rfl
theorem besTo_snoc (s : List Nat) (l : List (Int × Int)) (k : Nat) (hk : k < l.length) : besTo s (l.take (k+1)) = setOne (besTo s (l.take k)) l[k].2.toNat l[k].1.toNat := by
  rw [List.take_succ_eq_append_getElem hk, besTo, List.foldl_append]; rfl
theorem InL.take {n : Nat} {l : List (Int × Int)} (h : InL n l) (k : Nat) : InL n (l.take k) := fun p hp => h p (List.mem_of_mem_take hp)
theorem InL.at_ {n : Nat} {l : List (Int × Int)} (h : InL n l) {k : Nat} (hk : k < l.length) : ∃ a b : Nat, l[k].1 = a ∧ l[k].2 = b ∧ a < n ∧ b < n := by
  obtain ⟨h1, h2, h3, h4⟩ := h _ (List.getElem_mem hk)
  exact ⟨l[k].1.toNat, l[k].2.toNat, by omega, by omega, by omega, by omega⟩
theorem outTo_row {n : Nat} : ∀ {l : List (Int × Int)}, InL n l → Row n (outTo n l) := by
  have key : ∀ (l : List (Int × Int)) (s : List Nat), InL n l → Row n s → Row n (l.foldl (fun s p => setOne s p.1.toNat p.2.toNat) s) := by
    intro l
    induction l with
    | nil => intro s _ hs; exact hs
    | cons p l ih =>
      intro s h hs
      obtain ⟨h1, h2, h3, h4⟩ := h p List.mem_cons_self
      exact ih _ (fun q hq => h q (List.mem_cons_of_mem _ hq)) (hs.setOne (by omega) (by omega))
  intro l h; exact key l _ h (Row.start n)
theorem besTo_row {n : Nat} {s : List Nat} (hs : Row n s) : ∀ {l : List (Int × Int)}, InL n l → Row n (besTo s l) := by
  have key : ∀ (l : List (Int × Int)) (s : List Nat), InL n l → Row n s → Row n (l.foldl (fun s p => setOne s p.2.toNat p.1.toNat) s) := by
    intro l
    induction l with
    | nil => intro s _ hs; exact hs
    | cons p l ih =>
      intro s h hs
      obtain ⟨h1, h2, h3, h4⟩ := h p List.mem_cons_self
      exact ih _ (fun q hq => h q (List.mem_cons_of_mem _ hq)) (hs.setOne (by omega) (by omega))
  intro l h; exact key l s h hs
theorem besM_row {n : Nat} {l : List (Int × Int)} (h : InL n l) : Row n (besM n l) := besTo_row (outTo_row h) h
end Go.Proofs.YtekfgkeimlidhaaGreatDoor.Pl
