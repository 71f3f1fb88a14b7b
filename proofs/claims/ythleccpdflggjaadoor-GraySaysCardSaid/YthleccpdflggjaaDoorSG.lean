import Derived.Test.YthleccpdflggjaaDoorG
/- plain facts on the reflected rows -/
namespace Go.Proofs.YthleccpdflggjaaDoor.Pl
open Go
def gr : Nat → List Int
  | 0 => [0]
  | k+1 => gr k ++ (gr k).reverse.map (· + 2 ^ k)
theorem gr_len (k : Nat) : (gr k).length = 2 ^ k := by
  induction k with
  | zero => rfl
  | succ k ih => simp [gr, ih, Nat.pow_succ]; omega
theorem gr_bd (k : Nat) : ∀ x ∈ gr k, 0 ≤ x ∧ x < 2 ^ k := by
  induction k with
  | zero => intro x hx; simp [gr] at hx; subst hx; decide
  | succ k ih =>
    intro x hx
    rw [Int.pow_succ]
    simp only [gr, List.mem_append, List.mem_map, List.mem_reverse] at hx
    rcases hx with h | ⟨y, hy, rfl⟩
    · have := ih x h; omega
    · have := ih y hy; omega
def gpart (k j : Nat) : List Int := gr k ++ ((gr k).reverse.take j).map (· + 2 ^ k)
theorem gpart_zero (k : Nat) : gpart k 0 = gr k := by simp [gpart]
theorem gpart_full (k : Nat) : gpart k (2 ^ k) = gr (k+1) := by
  have e : gr (k+1) = gr k ++ (gr k).reverse.map (· + 2 ^ k) := rfl
  rw [e, gpart, List.take_of_length_le (by simp [gr_len])]
theorem gpart_len (k j : Nat) (h : j ≤ 2 ^ k) : (gpart k j).length = 2 ^ k + j := by simp [gpart, gr_len]; omega
/-- the next element that is appended stands at place 2^k - 1 - j -/
theorem gpart_next (k j m : Nat) (h : m + j + 1 = 2 ^ k) : ∃ x : Int, (gpart k j)[m]? = some x ∧ 0 ≤ x ∧ x < 2 ^ k ∧ gpart k (j+1) = gpart k j ++ [x + 2 ^ k] := by
  have hm : m < (gr k).length := by rw [gr_len]; omega
  have hj : j < (gr k).reverse.length := by simp [gr_len]; omega
  refine ⟨(gr k)[m], ?_, ?_⟩
  · unfold gpart; rw [List.getElem?_append_left hm, List.getElem?_eq_getElem hm]
  · have hb := gr_bd k _ (List.getElem_mem hm)
    refine ⟨hb.1, hb.2, ?_⟩
    unfold gpart
    rw [List.take_succ_eq_append_getElem hj, List.map_append, ← List.append_assoc]
    congr 1
    simp only [List.map_cons, List.map_nil]
    rw [List.getElem_reverse]
    congr 2
    have : (gr k).length - 1 - j = m := by rw [gr_len]; omega
    simp [this]
def firstAt (l : List Int) (p : Int) (w : Nat) : Bool := l[w]? == some p && (l.take w).all (· != p)
def chkSays (n p : Nat) : Bool := (gr n)[p]? == some (gAt p) && firstAt (gr n) p (pl 9 p 0).toNat && decide (0 ≤ pl 9 p 0)
theorem says_all : all9 chkSays = true := by decide +kernel
end Go.Proofs.YthleccpdflggjaaDoor.Pl
