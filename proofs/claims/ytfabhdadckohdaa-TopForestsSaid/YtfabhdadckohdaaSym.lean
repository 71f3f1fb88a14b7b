import Derived.Test.YtfabhdadckohdaaWords
import Derived.Sort.LotA
/- the stable sort's merging of two sorted runs in one row: plain -/
set_option linter.all false
set_option maxRecDepth 100000
namespace Go.Proofs.Ytfabhdadckohdaa
open Go.Sort
section
variable {α : Type} [Inhabited α]
def swpR (a b n i : Nat) (d : Array α) : Array α := if i < n then swpR a b n (i+1) (swp d (a+i) (b+i)) else d
termination_by n - i
def rotL (m i j : Nat) (d : Array α) : Array α :=
  if i = 0 ∨ j = 0 then d else if i = j then swpR (m-i) m i 0 d else if j < i then rotL m (i-j) j (swpR (m-i) m j 0 d) else rotL m i (j-i) (swpR (m-i) (m+j-i) i 0 d)
termination_by i + j
decreasing_by all_goals omega
def bsr (p : Nat → Bool) (i j : Nat) : Nat := if i < j then (if p ((i+j)/2) = true then bsr p ((i+j)/2+1) j else bsr p i ((i+j)/2)) else i
termination_by j - i
decreasing_by all_goals omega
def ups (e k : Nat) (d : Array α) : Array α := if k + 1 < e then ups e (k+1) (swp d k (k+1)) else d
termination_by e - k
def downs (e : Nat) : Nat → Array α → Array α
  | 0, d => d
  | k+1, d => if e < k+1 then downs e k (swp d (k+1) k) else d
def symSt (lt : α → α → Bool) (a m b : Nat) (d : Array α) : Nat :=
  if (a+b)/2 < m then bsr (fun c => !lt d[(a+b)/2+m-1-c]! d[c]!) ((a+b)/2+m-b) ((a+b)/2) else bsr (fun c => !lt d[(a+b)/2+m-1-c]! d[c]!) a m
def symR (m mid st : Nat) (d : Array α) : Array α := if st < m ∧ m < mid + m - st then rotL m (m-st) (mid-st) d else d
def symM (lt : α → α → Bool) : Nat → Nat → Nat → Nat → Array α → Array α
  | 0, a, m, b, d => d
  | g+1, a, m, b, d =>
    if m = a+1 then ups (bsr (fun h => lt d[h]! d[a]!) m b) a d
    else if b = m+1 then downs (bsr (fun h => !lt d[m]! d[h]!) a m) m d
    else
      (fun st => (fun d2 => if (a+b)/2 < (a+b)/2+m-st ∧ (a+b)/2+m-st < b then symM lt g ((a+b)/2) ((a+b)/2+m-st) b d2 else d2)
        (if a < st ∧ st < (a+b)/2 then symM lt g a st ((a+b)/2) (symR m ((a+b)/2) st d) else symR m ((a+b)/2) st d)) (symSt lt a m b d)
/-! ### sizes and permutations -/
theorem swpR_perm {lo hi a b n : Nat} : ∀ (k i : Nat) (d : Array α), n - i = k → lo ≤ a → lo ≤ b → a + n ≤ hi → b + n ≤ hi → hi ≤ d.size → PermIn lo hi d (swpR a b n i d)
  | 0, i, d, hk, _, _, _, _, _ => by rw [swpR, if_neg (by omega)]; exact permIn_refl d lo hi
  | k+1, i, d, hk, h1, h2, h3, h4, h5 => by
    rw [swpR, if_pos (by omega)]
    exact permIn_trans _ _ _ lo hi (swp_permIn d lo hi (a+i) (b+i) (by omega) (by omega) (by omega) (by omega) h5) (swpR_perm k (i+1) _ (by omega) h1 h2 h3 h4 (by rw [size_swp]; exact h5))
theorem rotL_perm {lo hi m : Nat} : ∀ (s i j : Nat) (d : Array α), i + j = s → lo + i ≤ m → m + j ≤ hi → hi ≤ d.size → PermIn lo hi d (rotL m i j d) := by
  intro s
  induction s using Nat.strongRecOn with
  | _ s ih =>
    intro i j d hs h1 h2 h3
    rw [rotL]
    by_cases c0 : i = 0 ∨ j = 0
    · rw [if_pos c0]; exact permIn_refl d lo hi
    · rw [if_neg c0]
      by_cases c1 : i = j
      · rw [if_pos c1]; exact swpR_perm _ 0 d rfl (by omega) (by omega) (by omega) (by omega) h3
      · rw [if_neg c1]
        by_cases c2 : j < i
        · rw [if_pos c2]
          have p := swpR_perm (lo := lo) (hi := hi) (a := m-i) (b := m) (n := j) _ 0 d rfl (by omega) (by omega) (by omega) (by omega) h3
          exact permIn_trans _ _ _ lo hi p (ih (i - j + j) (by omega) (i-j) j _ rfl (by omega) h2 (by rw [p.1]; exact h3))
        · rw [if_neg c2]
          have p := swpR_perm (lo := lo) (hi := hi) (a := m-i) (b := m+j-i) (n := i) _ 0 d rfl (by omega) (by omega) (by omega) (by omega) h3
          exact permIn_trans _ _ _ lo hi p (ih (i + (j - i)) (by omega) i (j-i) _ rfl h1 (by omega) (by rw [p.1]; exact h3))
theorem ups_perm {lo hi e : Nat} : ∀ (n k : Nat) (d : Array α), e - k = n → lo ≤ k → e ≤ hi → hi ≤ d.size → PermIn lo hi d (ups e k d)
  | 0, k, d, hk, _, _, _ => by rw [ups, if_neg (by omega)]; exact permIn_refl d lo hi
  | n+1, k, d, hk, h1, h2, h3 => by
    rw [ups]
    by_cases c : k + 1 < e
    · rw [if_pos c]
      exact permIn_trans _ _ _ lo hi (swp_permIn d lo hi k (k+1) h1 (by omega) (by omega) (by omega) h3) (ups_perm n (k+1) _ (by omega) (by omega) h2 (by rw [size_swp]; exact h3))
    · rw [if_neg c]; exact permIn_refl d lo hi
theorem downs_perm {lo hi e : Nat} : ∀ (k : Nat) (d : Array α), lo ≤ e → k < hi → hi ≤ d.size → PermIn lo hi d (downs e k d)
  | 0, d, _, _, _ => permIn_refl d lo hi
  | k+1, d, h1, h2, h3 => by
    rw [downs]
    by_cases c : e < k + 1
    · rw [if_pos c]
      exact permIn_trans _ _ _ lo hi (swp_permIn d lo hi (k+1) k (by omega) h2 (by omega) (by omega) h3) (downs_perm k _ h1 (by omega) (by rw [size_swp]; exact h3))
    · rw [if_neg c]; exact permIn_refl d lo hi
theorem swpR_size {a b n : Nat} : ∀ (k i : Nat) (d : Array α), n - i = k → (swpR a b n i d).size = d.size
  | 0, i, d, hk => by rw [swpR, if_neg (by omega)]
  | k+1, i, d, hk => by rw [swpR, if_pos (by omega), swpR_size k (i+1) _ (by omega), size_swp]
theorem rotL_size {m : Nat} : ∀ (s i j : Nat) (d : Array α), i + j = s → (rotL m i j d).size = d.size := by
  intro s
  induction s using Nat.strongRecOn with
  | _ s ih =>
    intro i j d hs
    rw [rotL]
    by_cases c0 : i = 0 ∨ j = 0
    · rw [if_pos c0]
    · rw [if_neg c0]
      by_cases c1 : i = j
      · rw [if_pos c1, swpR_size _ 0 d rfl]
      · rw [if_neg c1]
        by_cases c2 : j < i
        · rw [if_pos c2, ih (i - j + j) (by omega) (i-j) j _ rfl, swpR_size _ 0 d rfl]
        · rw [if_neg c2, ih (i + (j - i)) (by omega) i (j-i) _ rfl, swpR_size _ 0 d rfl]
theorem ups_size {e : Nat} : ∀ (n k : Nat) (d : Array α), e - k = n → (ups e k d).size = d.size
  | 0, k, d, hk => by rw [ups, if_neg (by omega)]
  | n+1, k, d, hk => by
    rw [ups]; split
    · rw [ups_size n (k+1) _ (by omega), size_swp]
    · rfl
theorem downs_size {e : Nat} : ∀ (k : Nat) (d : Array α), (downs e k d).size = d.size
  | 0, d => rfl
  | k+1, d => by
    rw [downs]; split
    · rw [downs_size k _, size_swp]
    · rfl
theorem symR_size {m mid st : Nat} (d : Array α) : (symR m mid st d).size = d.size := by
  unfold symR; split
  · exact rotL_size _ _ _ d rfl
  · rfl
theorem symM_size {lt : α → α → Bool} : ∀ (g a m b : Nat) (d : Array α), (symM lt g a m b d).size = d.size
  | 0, a, m, b, d => rfl
  | g+1, a, m, b, d => by
    rw [symM]; split
    · exact ups_size _ _ d rfl
    · split
      · exact downs_size _ d
      · have hl : (if a < symSt lt a m b d ∧ symSt lt a m b d < (a+b)/2 then symM lt g a (symSt lt a m b d) ((a+b)/2) (symR m ((a+b)/2) (symSt lt a m b d) d) else symR m ((a+b)/2) (symSt lt a m b d) d).size = d.size := by
          split
          · rw [symM_size g, symR_size]
          · exact symR_size d
        show (if (a+b)/2 < (a+b)/2+m-symSt lt a m b d ∧ (a+b)/2+m-symSt lt a m b d < b then symM lt g ((a+b)/2) ((a+b)/2+m-symSt lt a m b d) b _ else _).size = d.size
        split
        · rw [symM_size g]; exact hl
        · exact hl
/-! ### what stands where -/
theorem swp_getE (d : Array α) {i j k : Nat} (hi : i < d.size) (hj : j < d.size) : (swp d i j)[k]! = if k = j then d[i]! else if k = i then d[j]! else d[k]! := by
  by_cases e : k = j
  · subst e; rw [if_pos rfl]; exact swp_right d i k hj
  · rw [if_neg e]
    by_cases e2 : k = i
    · subst e2; rw [if_pos rfl]; exact swp_left d k j hi e
    · rw [if_neg e2]; exact swp_other d i j k e2 e
theorem swpR_at {a b n : Nat} (hab : a + n ≤ b) : ∀ (r i : Nat) (d : Array α), n - i = r → b + n ≤ d.size → ∀ k, (swpR a b n i d)[k]! = if a + i ≤ k ∧ k < a + n then d[k + (b - a)]! else if b + i ≤ k ∧ k < b + n then d[k - (b - a)]! else d[k]!
  | 0, i, d, hr, h, k => by rw [swpR, if_neg (by omega), if_neg (by omega), if_neg (by omega)]
  | r+1, i, d, hr, h, k => by
    rw [swpR, if_pos (by omega), swpR_at hab r (i+1) _ (by omega) (by rw [size_swp]; exact h) k]
    have ha : a + i < d.size := by omega
    have hb : b + i < d.size := by omega
    rw [swp_getE d ha hb, swp_getE d ha hb, swp_getE d ha hb]
    by_cases c1 : a + i ≤ k ∧ k < a + n
    · rw [if_pos c1]
      by_cases e : k = a + i
      · rw [if_neg (by omega), if_neg (by omega), if_neg (by omega), if_pos e]; congr 1; omega
      · rw [if_pos (by omega), if_neg (by omega), if_neg (by omega)]
    · rw [if_neg c1, if_neg (by omega)]
      by_cases c2 : b + i ≤ k ∧ k < b + n
      · rw [if_pos c2]
        by_cases e : k = b + i
        · rw [if_neg (by omega), if_pos e]; congr 1; omega
        · rw [if_pos (by omega), if_neg (by omega), if_neg (by omega)]
      · rw [if_neg c2, if_neg (by omega), if_neg (by omega), if_neg (by omega)]
/-- d' is d, but the runs s..m and m..e have changed places -/
def isRot (s m e : Nat) (d d' : Array α) : Prop := ∀ k, d'[k]! = if k < s then d[k]! else if k < s + (e - m) then d[k + (m - s)]! else if k < e then d[k - (e - m)]! else d[k]!
theorem rotL_rot {m : Nat} : ∀ (s i j : Nat) (d : Array α), i + j = s → i ≤ m → 0 < i → 0 < j → m + j ≤ d.size → isRot (m-i) m (m+j) d (rotL m i j d) := by
  intro s
  induction s using Nat.strongRecOn with
  | _ s ih =>
    intro i j d hs h1 hi hj h3 k
    rw [rotL, if_neg (by omega)]
    by_cases c1 : i = j
    · subst c1
      rw [if_pos rfl, swpR_at (by omega) _ 0 d rfl h3 k]
      by_cases k1 : k < m - i
      · rw [if_neg (by omega), if_neg (by omega), if_pos k1]
      · rw [if_neg k1]
        by_cases k2 : k < m
        · rw [if_pos (by omega), if_pos (by omega)]
        · by_cases k3 : k < m + i
          · rw [if_neg (by omega), if_pos (by omega), if_neg (by omega), if_pos k3]; congr 1; omega
          · rw [if_neg (by omega), if_neg (by omega), if_neg (by omega), if_neg k3]
    · rw [if_neg c1]
      by_cases c2 : j < i
      · rw [if_pos c2]
        have hz := (swpR_perm (lo := 0) (hi := d.size) (a := m-i) (b := m) (n := j) _ 0 d rfl (by omega) (by omega) (by omega) (by omega) (Nat.le_refl _)).1
        rw [ih (i - j + j) (by omega) (i-j) j _ rfl (by omega) (by omega) hj (by rw [hz]; exact h3) k]
        have hat := fun k => swpR_at (a := m-i) (b := m) (n := j) (by omega) _ 0 d rfl (by omega) k
        rw [hat, hat, hat]
        by_cases k1 : k < m - i
        · rw [if_pos (by omega), if_neg (by omega), if_neg (by omega), if_pos k1]
        · rw [if_neg k1]
          by_cases k2 : k < m - i + j
          · rw [if_pos (by omega), if_pos (by omega), if_pos (by omega)]
          · rw [if_neg (show ¬ k < m - i + (m + j - m) by omega)]
            by_cases k3 : k < m - (i - j)
            · omega
            · rw [if_neg k3]
              by_cases k4 : k < m - (i - j) + (m + j - m)
              · rw [if_pos k4, if_neg (by omega), if_pos (by omega), if_pos (by omega)]; congr 1; omega
              · rw [if_neg k4]
                by_cases k5 : k < m + j
                · rw [if_pos k5, if_neg (by omega), if_neg (by omega), if_pos k5]
                · rw [if_neg k5, if_neg (by omega), if_neg (by omega), if_neg k5]
      · rw [if_neg c2]
        have hz := (swpR_perm (lo := 0) (hi := d.size) (a := m-i) (b := m+j-i) (n := i) _ 0 d rfl (by omega) (by omega) (by omega) (by omega) (Nat.le_refl _)).1
        rw [ih (i + (j - i)) (by omega) i (j-i) _ rfl h1 hi (by omega) (by rw [hz]; omega) k]
        have hat := fun k => swpR_at (a := m-i) (b := m+j-i) (n := i) (by omega) _ 0 d rfl (by omega) k
        rw [hat, hat, hat]
        by_cases k1 : k < m - i
        · rw [if_pos k1, if_neg (by omega), if_neg (by omega), if_pos k1]
        · rw [if_neg k1, if_neg k1]
          by_cases k2 : k < m - i + (m + (j - i) - m)
          · rw [if_pos k2, if_neg (by omega), if_pos (show k < m - i + (m + j - m) by omega)]
            by_cases k6 : m + j - i ≤ k + (m - (m - i))
            · omega
            · rw [if_neg (by omega)]
          · rw [if_neg k2]
            by_cases k3 : k < m + (j - i)
            · rw [if_pos k3]
              by_cases k7 : k < m - i + (m + j - m)
              · rw [if_pos (by omega), if_pos k7]; congr 1; omega
              · omega
            · rw [if_neg k3, if_neg (by omega)]
              by_cases k8 : k < m - i + (m + j - m)
              · omega
              · rw [if_neg k8]
                by_cases k5 : k < m + j
                · rw [if_pos (by omega), if_pos k5]; congr 1; omega
                · rw [if_neg (by omega), if_neg k5]
theorem ups_at {e : Nat} : ∀ (n k : Nat) (d : Array α), e - k = n → k < e → e ≤ d.size → ∀ x, (ups e k d)[x]! = if k ≤ x ∧ x + 1 < e then d[x+1]! else if x + 1 = e then d[k]! else d[x]!
  | 0, k, d, hk, h1, _, x => by omega
  | n+1, k, d, hk, h1, h2, x => by
    rw [ups]
    by_cases c : k + 1 < e
    · rw [if_pos c, ups_at n (k+1) _ (by omega) c (by rw [size_swp]; exact h2) x]
      have hat := fun y => swp_getE d (i := k) (j := k+1) (k := y) (by omega) (by omega)
      rw [hat, hat, hat]
      by_cases x1 : k ≤ x ∧ x + 1 < e
      · rw [if_pos x1]
        by_cases x2 : x = k
        · rw [if_neg (by omega), if_neg (by omega), if_neg (by omega), if_pos x2, x2]
        · rw [if_pos (by omega), if_neg (by omega), if_neg (by omega)]
      · rw [if_neg x1, if_neg (by omega)]
        by_cases x3 : x + 1 = e
        · rw [if_pos x3, if_pos x3, if_pos rfl]
        · rw [if_neg x3, if_neg x3, if_neg (by omega), if_neg (by omega)]
    · rw [if_neg c, if_neg (by omega)]
      by_cases x3 : x + 1 = e
      · rw [if_pos x3]; congr 1; omega
      · rw [if_neg x3]
theorem downs_at {e : Nat} : ∀ (k : Nat) (d : Array α), e ≤ k → k < d.size → ∀ x, (downs e k d)[x]! = if x = e then d[k]! else if e < x ∧ x ≤ k then d[x-1]! else d[x]!
  | 0, d, h1, h2, x => by
    rw [downs]
    by_cases c : x = e
    · rw [if_pos c]; congr 1; omega
    · rw [if_neg c, if_neg (by omega)]
  | k+1, d, h1, h2, x => by
    rw [downs]
    by_cases c : e < k + 1
    · rw [if_pos c, downs_at k _ (by omega) (by rw [size_swp]; omega) x]
      have hat := fun y => swp_getE d (i := k+1) (j := k) (k := y) (by omega) (by omega)
      rw [hat, hat, hat]
      by_cases x1 : x = e
      · rw [if_pos x1, if_pos x1, if_pos rfl]
      · rw [if_neg x1, if_neg x1]
        by_cases x2 : e < x ∧ x ≤ k
        · rw [if_pos x2, if_neg (by omega), if_neg (by omega), if_pos (by omega)]
        · rw [if_neg x2]
          by_cases x3 : x = k + 1
          · rw [if_neg (by omega), if_pos x3, if_pos (by omega), x3]; rfl
          · rw [if_neg (by omega), if_neg x3, if_neg (by omega)]
    · rw [if_neg c]
      by_cases x1 : x = e
      · rw [if_pos x1]; congr 1; omega
      · rw [if_neg x1, if_neg (by omega)]
theorem bsr_spec {p : Nat → Bool} {i0 j0 : Nat} : ∀ (n i j : Nat), j - i = n → i0 ≤ i → i ≤ j → j ≤ j0 → (i0 < i → p (i-1) = true) → (j < j0 → p j = false) →
    i0 ≤ bsr p i j ∧ bsr p i j ≤ j0 ∧ (i0 < bsr p i j → p (bsr p i j - 1) = true) ∧ (bsr p i j < j0 → p (bsr p i j) = false) := by
  intro n
  induction n using Nat.strongRecOn with
  | _ n ih =>
    intro i j hn h1 h2 h3 h4 h5
    rw [bsr]
    by_cases c : i < j
    · rw [if_pos c]
      cases e : p ((i+j)/2)
      · rw [if_neg (by decide)]
        exact ih ((i+j)/2 - i) (by omega) i ((i+j)/2) rfl h1 (by omega) (by omega) h4 fun _ => e
      · rw [if_pos rfl]
        exact ih (j - ((i+j)/2+1)) (by omega) ((i+j)/2+1) j rfl (by omega) (by omega) h3 (fun _ => by rw [Nat.add_sub_cancel]; exact e) h5
    · rw [if_neg c]
      have : i = j := by omega
      subst this
      exact ⟨h1, h3, h4, h5⟩
end
section
variable {α : Type} [Inhabited α] {lt lt' : α → α → Bool}
theorem swoA (hS : SWO lt) {x y : α} (h : lt x y = true) : lt y x = false := by
  cases e : lt y x
  · rfl
  · have := hS.trans _ _ _ h e; rw [hS.irrefl] at this; cases this
theorem srtL (hS : SWO lt) {a b : Nat} {d : Array α} (h : SortedIn lt a b d) {i j : Nat} (hi : a ≤ i) (hij : i ≤ j) (hj : j < b) : lt d[j]! d[i]! = false := by
  by_cases e : i = j
  · subst e; exact hS.irrefl _
  · exact h i j hi (by omega) hj
set_option maxHeartbeats 2000000 in
theorem symM_spec (hS : SWO lt) : ∀ (g a m b : Nat) (d : Array α), b - a ≤ g → a < m → m < b → b ≤ d.size → SortedIn lt a m d → SortedIn lt m b d → (∀ p q, a ≤ p → p < m → m ≤ q → q < b → lt' d[q]! d[p]! = lt d[q]! d[p]!) →
    PermIn a b d (symM lt' g a m b d) ∧ SortedIn lt a b (symM lt' g a m b d)
  | 0, a, m, b, d, hg, h1, h2, _, _, _, _ => by omega
  | g+1, a, m, b, d, hg, h1, h2, hb, hL, hR, hag => by
    rw [symM]
    by_cases c1 : m = a + 1
    · rw [if_pos c1]
      obtain ⟨r, hr⟩ : ∃ r, bsr (fun h => lt' d[h]! d[a]!) m b = r := ⟨_, rfl⟩
      obtain ⟨b1, b2, b3, b4⟩ := bsr_spec (p := fun h => lt' d[h]! d[a]!) (i0 := m) (j0 := b) _ m b rfl (Nat.le_refl _) (by omega) (Nat.le_refl _) (fun h => by omega) (fun h => by omega)
      rw [hr] at b1 b2 b3 b4 ⊢
      refine ⟨ups_perm _ a d rfl (Nat.le_refl _) b2 hb, fun i j hi hij hj => ?_⟩
      have hat := ups_at (e := r) _ a d rfl (by omega) (by omega)
      have c3 : m < r → lt d[r-1]! d[a]! = true := fun h => by rw [← hag a (r-1) (Nat.le_refl _) h1 (by omega) (by omega)]; exact b3 h
      have c4 : r < b → lt d[r]! d[a]! = false := fun h => by rw [← hag a r (Nat.le_refl _) h1 (by omega) (by omega)]; exact b4 h
      rw [hat, hat]
      by_cases j1 : a ≤ j ∧ j + 1 < r
      · rw [if_pos j1, if_pos (by omega)]
        exact hR (i+1) (j+1) (by omega) (by omega) (by omega)
      · rw [if_neg j1]
        by_cases j2 : j + 1 = r
        · rw [if_pos j2, if_pos (by omega)]
          exact hS.ntrans _ _ _ (swoA hS (c3 (by omega))) (srtL hS hR (i := i+1) (j := r-1) (by omega) (by omega) (by omega))
        · rw [if_neg j2]
          by_cases i1 : i + 1 < r
          · rw [if_pos (by omega)]
            exact hR (i+1) j (by omega) (by omega) hj
          · rw [if_neg (by omega)]
            by_cases i2 : i + 1 = r
            · rw [if_pos i2]
              exact hS.ntrans _ _ _ (srtL hS hR (i := r) (j := j) (by omega) (by omega) hj) (c4 (by omega))
            · rw [if_neg i2]
              exact hR i j (by omega) hij hj
    · rw [if_neg c1]
      by_cases c2 : b = m + 1
      · rw [if_pos c2]
        obtain ⟨r, hr⟩ : ∃ r, bsr (fun h => !lt' d[m]! d[h]!) a m = r := ⟨_, rfl⟩
        obtain ⟨b1, b2, b3, b4⟩ := bsr_spec (p := fun h => !lt' d[m]! d[h]!) (i0 := a) (j0 := m) _ a m rfl (Nat.le_refl _) (by omega) (Nat.le_refl _) (fun h => by omega) (fun h => by omega)
        rw [hr] at b1 b2 b3 b4 ⊢
        refine ⟨downs_perm m d b1 h2 hb, fun i j hi hij hj => ?_⟩
        have hat := downs_at (e := r) m d b2 (by omega)
        have c3 : a < r → lt d[m]! d[r-1]! = false := fun h => by
          have := b3 h
          rw [Bool.not_eq_true', hag (r-1) m (by omega) (by omega) (Nat.le_refl _) h2] at this; exact this
        have c4 : r < m → lt d[m]! d[r]! = true := fun h => by
          have := b4 h
          rw [Bool.not_eq_false', hag r m b1 h (Nat.le_refl _) h2] at this; exact this
        rw [hat, hat]
        by_cases j1 : j = r
        · rw [if_pos j1, if_neg (by omega), if_neg (by omega)]
          exact hS.ntrans _ _ _ (c3 (by omega)) (srtL hS hL (i := i) (j := r-1) hi (by omega) (by omega))
        · rw [if_neg j1]
          by_cases j2 : r < j ∧ j ≤ m
          · rw [if_pos j2]
            by_cases i1 : i = r
            · rw [if_pos i1]
              exact hS.ntrans _ _ _ (srtL hS hL (i := r) (j := j-1) b1 (by omega) (by omega)) (swoA hS (c4 (by omega)))
            · rw [if_neg i1]
              by_cases i2 : r < i ∧ i ≤ m
              · rw [if_pos i2]; exact hL (i-1) (j-1) (by omega) (by omega) (by omega)
              · rw [if_neg i2]; exact srtL hS hL hi (by omega) (by omega)
          · rw [if_neg j2, if_neg (by omega), if_neg (by omega)]
            exact hL i j hi hij (by omega)
      · rw [if_neg c2]
        obtain ⟨mid, hmid⟩ : ∃ mid, (a+b)/2 = mid := ⟨_, rfl⟩
        obtain ⟨st, hst⟩ : ∃ st, symSt lt' a m b d = st := ⟨_, rfl⟩
        rw [hst, hmid]
        dsimp only
        -- where it is cut
        have key : a ≤ st ∧ st ≤ m ∧ st ≤ mid ∧ mid + m - st ≤ b ∧
            (∀ i j, a ≤ i → i < st → mid + m - st ≤ j → j < b → lt d[j]! d[i]! = false) ∧ (∀ i j, st ≤ i → i < m → m ≤ j → j < mid + m - st → lt d[i]! d[j]! = false) := by
          have one : ∀ i0 j0, a ≤ i0 → i0 ≤ j0 → j0 ≤ m → j0 ≤ mid → (∀ c, i0 ≤ c → c < j0 → m ≤ mid + m - 1 - c ∧ mid + m - 1 - c < b) → (i0 = a ∨ mid + m - i0 = b) → (j0 = m ∨ j0 = mid) → mid + m - i0 ≤ b → bsr (fun c => !lt' d[mid+m-1-c]! d[c]!) i0 j0 = st →
              a ≤ st ∧ st ≤ m ∧ st ≤ mid ∧ mid + m - st ≤ b ∧
              (∀ i j, a ≤ i → i < st → mid + m - st ≤ j → j < b → lt d[j]! d[i]! = false) ∧ (∀ i j, st ≤ i → i < m → m ≤ j → j < mid + m - st → lt d[i]! d[j]! = false) := by
            intro i0 j0 q1 q2 q3 q4 q5 q6 q7 q8 q9
            obtain ⟨b1, b2, b3, b4⟩ := bsr_spec (p := fun c => !lt' d[mid+m-1-c]! d[c]!) (i0 := i0) (j0 := j0) _ i0 j0 rfl (Nat.le_refl _) q2 (Nat.le_refl _) (fun h => by omega) (fun h => by omega)
            rw [q9] at b1 b2 b3 b4
            refine ⟨by omega, by omega, by omega, by omega, fun i j hi his hj hjb => ?_, fun i j hi him hj hje => ?_⟩
            · by_cases e : i0 < st
              · have w := b3 e
                have hw := q5 (st-1) (by omega) (by omega)
                rw [Bool.not_eq_true', hag (st-1) _ (by omega) (by omega) hw.1 hw.2, show mid + m - 1 - (st - 1) = mid + m - st by omega] at w
                exact hS.ntrans _ _ _ (srtL hS hR (by omega) hj hjb) (hS.ntrans _ _ _ w (srtL hS hL hi (by omega) (by omega)))
              · omega
            · by_cases e : st < j0
              · have w := b4 e
                have hw := q5 st b1 e
                rw [Bool.not_eq_false', hag st _ (by omega) (by omega) hw.1 hw.2] at w
                exact hS.ntrans _ _ _ (srtL hS hL (by omega) hi him) (hS.ntrans _ _ _ (swoA hS w) (srtL hS hR hj (by omega) (by omega)))
              · omega
          unfold symSt at hst
          rw [hmid] at hst
          by_cases c3 : mid < m
          · rw [if_pos c3] at hst
            exact one (mid+m-b) mid (by omega) (by omega) (by omega) (Nat.le_refl _) (fun c h1 h2 => by omega) (by omega) (.inr rfl) (by omega) hst
          · rw [if_neg c3] at hst
            exact one a m (Nat.le_refl _) (by omega) (Nat.le_refl _) (by omega) (fun c h1 h2 => by omega) (.inl rfl) (.inl rfl) (by omega) hst
        obtain ⟨k1, k2, k3, k4, k5, k6⟩ := key
        clear hst
        -- behind the turning
        have hP1 : PermIn a b d (symR m mid st d) := by
          unfold symR; split
          · exact rotL_perm _ _ _ d rfl (by omega) (by omega) hb
          · exact permIn_refl d a b
        have hat : ∀ k, (symR m mid st d)[k]! = if k < st then d[k]! else if k < mid then d[k + (m-st)]! else if k < mid + m - st then d[k - (mid - st)]! else d[k]! := fun k => by
          unfold symR
          by_cases c : st < m ∧ m < mid + m - st
          · rw [if_pos c]
            have := rotL_rot (m := m) _ (m-st) (mid-st) d rfl (by omega) (by omega) (by omega) (by omega) k
            rw [show m - (m - st) = st by omega, show st + (m + (mid - st) - m) = mid by omega, show m + (mid - st) - m = mid - st by omega, show m + (mid - st) = mid + m - st by omega] at this
            exact this
          · rw [if_neg c]
            by_cases x1 : k < st
            · rw [if_pos x1]
            · rw [if_neg x1]
              by_cases x2 : k < mid
              · rw [if_pos x2]; congr 1; omega
              · rw [if_neg x2]
                by_cases x3 : k < mid + m - st
                · rw [if_pos x3]; congr 1; omega
                · rw [if_neg x3]
        obtain ⟨d1, hd1⟩ : ∃ d1, symR m mid st d = d1 := ⟨_, rfl⟩
        rw [hd1] at hP1 hat ⊢
        have hz1 : d1.size = d.size := hP1.1
        have at1 : ∀ k, k < st → d1[k]! = d[k]! := fun k h => by rw [hat, if_pos h]
        have at2 : ∀ k, st ≤ k → k < mid → d1[k]! = d[k + (m-st)]! := fun k h h' => by rw [hat, if_neg (by omega), if_pos h']
        have at3 : ∀ k, mid ≤ k → k < mid + m - st → d1[k]! = d[k - (mid - st)]! := fun k h h' => by rw [hat, if_neg (by omega), if_neg (by omega), if_pos h']
        have at4 : ∀ k, mid + m - st ≤ k → d1[k]! = d[k]! := fun k h => by rw [hat, if_neg (by omega), if_neg (by omega), if_neg (by omega)]
        have cross : ∀ p q, a ≤ p → p < mid → mid ≤ q → q < b → lt d1[q]! d1[p]! = false := fun p q p1 p2 q1 q2 => by
          by_cases x1 : p < st
          · rw [at1 p x1]
            by_cases x2 : q < mid + m - st
            · rw [at3 q q1 x2]; exact hL p (q - (mid - st)) p1 (by omega) (by omega)
            · rw [at4 q (by omega)]; exact k5 p q p1 x1 (by omega) q2
          · rw [at2 p (by omega) p2]
            by_cases x2 : q < mid + m - st
            · rw [at3 q q1 x2]; exact k6 _ _ (by omega) (by omega) (by omega) (by omega)
            · rw [at4 q (by omega)]; exact hR _ _ (by omega) (by omega) q2
        clear hat
        have hmb : mid ≤ b := by omega
        have ham : a ≤ mid := by omega
        -- the left half
        have left : PermIn a mid d1 (if a < st ∧ st < mid then symM lt' g a st mid d1 else d1) ∧ SortedIn lt a mid (if a < st ∧ st < mid then symM lt' g a st mid d1 else d1) := by
          by_cases c : a < st ∧ st < mid
          · rw [if_pos c]
            refine symM_spec hS g a st mid d1 (by omega) c.1 c.2 (by omega) (fun i j hi hij hj => ?_) (fun i j hi hij hj => ?_) fun p q p1 p2 q1 q2 => ?_
            · rw [at1 i (by omega), at1 j (by omega)]; exact hL i j hi hij (by omega)
            · rw [at2 i hi (by omega), at2 j (by omega) hj]; exact hR _ _ (by omega) (by omega) (by omega)
            · rw [at1 p p2, at2 q q1 q2]; exact hag _ _ p1 (by omega) (by omega) (by omega)
          · rw [if_neg c]
            refine ⟨permIn_refl _ _ _, fun i j hi hij hj => ?_⟩
            by_cases e : st = a
            · rw [at2 i (by omega) (by omega), at2 j (by omega) hj]; exact hR _ _ (by omega) (by omega) (by omega)
            · rw [at1 i (by omega), at1 j (by omega)]; exact hL i j hi hij (by omega)
        obtain ⟨d2, hd2⟩ : ∃ d2, (if a < st ∧ st < mid then symM lt' g a st mid d1 else d1) = d2 := ⟨_, rfl⟩
        rw [hd2] at left ⊢
        obtain ⟨lp, ls⟩ := left
        have hz2 : d2.size = d.size := by rw [lp.1, hz1]
        have same : ∀ k, mid ≤ k → d2[k]! = d1[k]! := fun k h => lp.2.1 k (.inr h)
        have right : PermIn mid b d2 (if mid < mid + m - st ∧ mid + m - st < b then symM lt' g mid (mid + m - st) b d2 else d2) ∧ SortedIn lt mid b (if mid < mid + m - st ∧ mid + m - st < b then symM lt' g mid (mid + m - st) b d2 else d2) := by
          by_cases c : mid < mid + m - st ∧ mid + m - st < b
          · rw [if_pos c]
            refine symM_spec hS g mid _ b d2 (by omega) c.1 c.2 (by omega) (fun i j hi hij hj => ?_) (fun i j hi hij hj => ?_) fun p q p1 p2 q1 q2 => ?_
            · rw [same i hi, same j (by omega), at3 i hi (by omega), at3 j (by omega) hj]; exact hL _ _ (by omega) (by omega) (by omega)
            · rw [same i (by omega), same j (by omega), at4 i hi, at4 j (by omega)]; exact hR i j (by omega) hij hj
            · rw [same p p1, same q (by omega), at3 p p1 p2, at4 q q1]; exact hag _ _ (by omega) (by omega) (by omega) q2
          · rw [if_neg c]
            refine ⟨permIn_refl _ _ _, fun i j hi hij hj => ?_⟩
            rw [same i hi, same j (by omega)]
            by_cases e : mid + m - st = mid
            · rw [at4 i (by omega), at4 j (by omega)]; exact hR i j (by omega) hij hj
            · rw [at3 i hi (by omega), at3 j (by omega) (by omega)]; exact hL _ _ (by omega) (by omega) (by omega)
        obtain ⟨d3, hd3⟩ : ∃ d3, (if mid < mid + m - st ∧ mid + m - st < b then symM lt' g mid (mid + m - st) b d2 else d2) = d3 := ⟨_, rfl⟩
        show PermIn a b d (if mid < mid + m - st ∧ mid + m - st < b then symM lt' g mid (mid + m - st) b d2 else d2) ∧ SortedIn lt a b (if mid < mid + m - st ∧ mid + m - st < b then symM lt' g mid (mid + m - st) b d2 else d2)
        rw [hd3] at right ⊢
        obtain ⟨rp, rs⟩ := right
        refine ⟨permIn_trans _ _ _ a b hP1 (permIn_trans _ _ _ a b (permIn_mono _ _ a mid a b (Nat.le_refl _) hmb (by omega) lp) (permIn_mono _ _ mid b a b ham (Nat.le_refl _) (by omega) rp)), fun i j hi hij hj => ?_⟩
        by_cases x1 : j < mid
        · rw [rp.2.1 i (.inl (by omega)), rp.2.1 j (.inl x1)]; exact ls i j hi hij x1
        · by_cases x2 : i < mid
          · rw [rp.2.1 i (.inl x2)]
            refine permIn_all d2 d3 mid b (fun y => lt y d2[i]! = false) (by omega) rp (fun q q1 q2 => ?_) j (by omega) hj
            show lt d2[q]! d2[i]! = false
            rw [same q q1]
            exact permIn_all d1 d2 a mid (fun x => lt d1[q]! x = false) (by omega) lp (fun p p1 p2 => cross p q p1 p2 q1 q2) i hi x2
          · exact rs i j (by omega) hij hj
end
end Go.Proofs.Ytfabhdadckohdaa
