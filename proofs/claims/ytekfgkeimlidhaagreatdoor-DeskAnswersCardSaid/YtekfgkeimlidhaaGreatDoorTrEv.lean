import Derived.Test.YtekfgkeimlidhaaGreatDoorTree
import Derived.Test.YtekfgkeimlidhaaGreatDoorTCk
/- plain: what tree.Check says; the trees that it lets through -/
set_option linter.all false
set_option maxRecDepth 100000
namespace Go.Proofs.YtekfgkeimlidhaaGreatDoor
open Go.RowKit Pl
theorem nodup_lt : ∀ (n : Nat) (l : List Nat), l.Nodup → (∀ x ∈ l, x < n) → l.length ≤ n
  | 0, l, hn, h => by
    cases l with
    | nil => simp
    | cons x l => have := h x List.mem_cons_self; omega
  | n+1, l, hn, h => by
    have h1 := nodup_lt n (l.filter fun x => x != n) (hn.filter _) (fun x hx => by
      obtain ⟨q1, q2⟩ := List.mem_filter.1 hx
      have := h x q1
      simp at q2; omega)
    have h2 : ∀ (l : List Nat), l.Nodup → l.length ≤ (l.filter fun x => x != n).length + 1 := by
      intro l
      induction l with
      | nil => intro _; simp
      | cons x l ih =>
        intro hn
        obtain ⟨n1, n2⟩ := List.nodup_cons.1 hn
        rw [List.filter_cons]
        by_cases e : x = n
        · subst e
          have : l.filter (fun y => y != x) = l := by
            rw [List.filter_eq_self]; intro y hy
            simp; rintro rfl; exact n1 hy
          simp [this]
        · have := ih n2
          simp [e]; omega
    have := h2 l hn
    omega
theorem once_len (a : Nat) : ∀ l : List Nat, l.Nodup → a ∈ l → (l.filter (fun v => v == a)).length = 1
  | [], _, h => by cases h
  | x :: l, hn, h => by
    obtain ⟨n1, n2⟩ := List.nodup_cons.1 hn
    by_cases e : x = a
    · subst e
      have : l.filter (fun v => v == x) = [] := by
        rw [List.filter_eq_nil_iff]; intro y hy hb
        simp at hb; subst hb; exact n1 hy
      rw [List.filter_cons, if_pos (by simp), this]; rfl
    · rw [List.filter_cons, if_neg (by simpa using e)]
      exact once_len a l n2 ((List.mem_cons.1 h).resolve_left (Ne.symm e))
/-- all hang together -/
def Conn (k : Nat) (l : List (Int × Int)) : Prop := ∀ P : Nat → Prop, P 0 → (∀ i j, P i → Ad k l i j → P j) → ∀ i, i < k → P i
open Classical in
noncomputable def errT (n : Int) (l : List (Int × Int)) : Int := if errG n l ≠ 0 then errG n l else if l.length + 1 = n.toNat ∧ Conn n.toNat l then 0 else 7
theorem sBelow_ev {k : Nat} (h : k ≤ 16) : sBelow (k : Int) = some (2 ^ k - 1) := by unfold sBelow; rw [if_pos (by omega), Int.toNat_natCast]
theorem full_bit (k j : Nat) : (2 ^ k - 1 : Nat).testBit j = decide (j < k) := Nat.testBit_two_pow_sub_one k j
theorem full_lt (k : Nat) : 2 ^ k - 1 < 2 ^ k := by have := Nat.two_pow_pos k; omega
theorem besM_lt {k : Nat} {l : List (Int × Int)} (hin : InL k l) (i : Nat) : (besM k l).getD i 0 < 2 ^ k := by
  have hrow := besM_row hin
  rcases Nat.lt_or_ge i k with h | h
  · exact (hrow.getD h).1
  · rw [List.getD_eq_getElem?_getD, List.getElem?_eq_none (by rw [hrow.1]; exact h)]; exact Nat.two_pow_pos k

end Go.Proofs.YtekfgkeimlidhaaGreatDoor
