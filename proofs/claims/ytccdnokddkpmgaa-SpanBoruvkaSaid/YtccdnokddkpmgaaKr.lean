import Derived.Test.YtccdnokddkpmgaaKo
import Derived.Test.YtccdnokddkpmgaaKc
/- what Least comes to: a fold over the lines in their order -/
set_option linter.all false
set_option maxRecDepth 100000
namespace Go.Proofs.Ytccdnokddkpmgaa
open Go.RowKit Pl
def setAll (W : List Nat) (xs : List Nat) (m : Nat) : List Nat := xs.foldl (fun W x => W.set x m) W
theorem setAll_len (m : Nat) : ∀ (xs W : List Nat), (setAll W xs m).length = W.length
  | [], W => rfl
  | x :: xs, W => by
    show (setAll (W.set x m) xs m).length = _
    rw [setAll_len m xs, List.length_set]
theorem setAll_at (m : Nat) (v : Nat) : ∀ (xs W : List Nat), v < W.length → (setAll W xs m).getD v 0 = if v ∈ xs then m else W.getD v 0
  | [], W, h => by simp [setAll]
  | x :: xs, W, h => by
    show (setAll (W.set x m) xs m).getD v 0 = _
    rw [setAll_at m v xs _ (by rw [List.length_set]; exact h)]
    by_cases hv : v ∈ xs
    · rw [if_pos hv, if_pos (List.mem_cons_of_mem _ hv)]
    · rw [if_neg hv]
      by_cases e : x = v
      · subst e
        rw [if_pos List.mem_cons_self]; simp [List.getD, h]
      · rw [if_neg (by rw [List.mem_cons]; exact fun q => q.elim (fun q => e q.symm) hv)]
        simp [List.getD, List.getElem?_set_ne e]
abbrev St := List Nat × List Bool × Int
def pA (l : List (Int × Int × Int)) (i : Nat) : Nat := (l.getD i (0, 0, 0)).1.toNat
def pB (l : List (Int × Int × Int)) (i : Nat) : Nat := (l.getD i (0, 0, 0)).2.1.toNat
def krS (l : List (Int × Int × Int)) (S : St) (i : Nat) : St :=
  if (S.1.getD (pA l i) 0).testBit (pB l i) = true then S
  else (setAll S.1 (memb (S.1.getD (pA l i) 0 ||| S.1.getD (pB l i) 0)) (S.1.getD (pA l i) 0 ||| S.1.getD (pB l i) 0), S.2.1.set i true, S.2.2 + cs l i)
section
variable {k : Nat} {l : List (Int × Int × Int)}
def okSt (k m j : Nat) (S : St) : Prop := S.1.length = k ∧ (∀ v, S.1.getD v 0 < 2 ^ k) ∧ S.2.1.length = m ∧ 0 ≤ S.2.2 ∧ S.2.2 ≤ 20 * (j : Int)
theorem bits_lt' {m n j : Nat} (hm : m < 2 ^ n) (hb : m.testBit j = true) : j < n := by
  rcases Nat.lt_or_ge j n with h | h
  · exact h
  · have := Nat.testBit_lt_two_pow (Nat.lt_of_lt_of_le hm (Nat.pow_le_pow_right (by omega) h))
    rw [this] at hb; cases hb
theorem okSt_step (hk : k ≤ 8) (hin : InC k l) {S : St} {i j : Nat} (hi : i < l.length) (h : okSt k l.length j S) : okSt k l.length (j+1) (krS l S i) := by
  obtain ⟨h1, h2, h3, h4, h5⟩ := h
  have he := hin _ (List.getElem_mem hi)
  have hc : cs l i = l[i].2.2 := by unfold cs; simp [List.getD, hi]
  unfold krS
  split
  · exact ⟨h1, h2, h3, h4, by omega⟩
  · refine ⟨by rw [setAll_len]; exact h1, fun v => ?_, by rw [List.length_set]; exact h3, by show 0 ≤ S.2.2 + cs l i; omega, by show S.2.2 + cs l i ≤ _; omega⟩
    by_cases hv : v < S.1.length
    · rw [setAll_at _ _ _ _ hv]
      split
      · exact Nat.or_lt_two_pow (h2 _) (h2 _)
      · exact h2 v
    · have : (setAll S.1 (memb (S.1.getD (pA l i) 0 ||| S.1.getD (pB l i) 0)) (S.1.getD (pA l i) 0 ||| S.1.getD (pB l i) 0)).length ≤ v := by rw [setAll_len]; omega
      rw [List.getD_eq_getElem?_getD, List.getElem?_eq_none this]
      exact Nat.two_pow_pos k
theorem ls_L4 (F m : Nat) : ∀ (xs W : List Nat), (∀ x ∈ xs, x < W.length) → span_Least_L4 F m xs W = some (setAll W xs m)
  | [], W, _ => by rw [span_Least_L4_n]; rfl
  | x :: xs, W, h => by
    rw [span_Least_L4_c, st_nat (h x List.mem_cons_self), Option.bind_some, ls_L4 F m xs _ fun y hy => by rw [List.length_set]; exact h y (List.mem_cons_of_mem _ hy)]; rfl
theorem ls_L3 (hk : k ≤ 8) (hin : InC k l) (h24 : l.length ≤ 24) {ord : List Nat} (hord : ∀ x ∈ ord, x < l.length) (hol : ord.length ≤ 24) : ∀ (g j : Nat) (S : St), ord.length < j + g → j ≤ ord.length → okSt k l.length j S →
    span_Least_L3 300 l (ord.map fun (x : Nat) => (x : Int)) g (j : Int) S.1 S.2.1 S.2.2 = some ((ord.drop j).foldl (krS l) S)
  | 0, j, S, h, hj, _ => by omega
  | g+1, j, S, h, hj, hS => by
    have hp := Nat.pow_le_pow_right (n := 2) (by omega) hk
    rw [span_Least_L3_s, List.length_map]
    by_cases c : j < ord.length
    · have hi := hord _ (List.getElem_mem c)
      have he := hin _ (List.getElem_mem hi)
      obtain ⟨i, hie⟩ : ∃ i, ord[j] = i := ⟨_, rfl⟩
      have hS' := okSt_step hk hin (i := ord[j]) hi hS
      obtain ⟨h1, h2, h3, h4, h5⟩ := hS
      have hix : ix (ord.map fun (x : Nat) => (x : Int)) (j : Int) = some ((ord[j] : Nat) : Int) := by rw [ix_nat (by rw [List.length_map]; exact c), List.getElem_map]
      rw [List.drop_eq_getElem_cons c, List.foldl_cons]
      rw [hie] at hi hS' hix ⊢
      have he := hin _ (List.getElem_mem hi)
      have hgd : l.getD i (0, 0, 0) = l[i] := by simp [List.getD, hi]
      have hA : l[i].1 = ((pA l i : Nat) : Int) := by unfold pA; rw [hgd]; omega
      have hB : l[i].2.1 = ((pB l i : Nat) : Int) := by unfold pB; rw [hgd]; omega
      have hC : l[i].2.2 = cs l i := by unfold cs; rw [hgd]
      have hAk : pA l i < k := by omega
      have hBk : pB l i < k := by omega
      have i1 : ix S.1 ((pA l i : Nat) : Int) = some (S.1.getD (pA l i) 0) := ix_at 0 (by omega)
      have i2 : ix S.1 ((pB l i : Nat) : Int) = some (S.1.getD (pB l i) 0) := ix_at 0 (by omega)
      have hhas : sHas (S.1.getD (pA l i) 0) ((pB l i : Nat) : Int) = some ((S.1.getD (pA l i) 0).testBit (pB l i)) := by
        have := h2 (pA l i)
        unfold sHas; rw [if_pos ⟨by omega, by omega, by omega⟩]; rfl
      have ih := ls_L3 hk hin h24 hord hol g (j+1) (krS l S i) (by omega) (by omega) hS'
      rw [if_pos (by omega), hix, Option.bind_some, ix_nat hi, Option.bind_some, hA, hB, hC, i1, Option.bind_some, hhas, Option.bind_some, w64n (by omega)]
      cases e : (S.1.getD (pA l i) 0).testBit (pB l i)
      · have hk1 : krS l S i = (setAll S.1 (memb (S.1.getD (pA l i) 0 ||| S.1.getD (pB l i) 0)) (S.1.getD (pA l i) 0 ||| S.1.getD (pB l i) 0), S.2.1.set i true, S.2.2 + cs l i) := by unfold krS; rw [if_neg (by rw [e]; decide)]
        have hor : S.1.getD (pA l i) 0 ||| S.1.getD (pB l i) 0 < 2 ^ k := Nat.or_lt_two_pow (h2 _) (h2 _)
        have hO : sOr (S.1.getD (pA l i) 0) (S.1.getD (pB l i) 0) = some (S.1.getD (pA l i) 0 ||| S.1.getD (pB l i) 0) := by
          have := h2 (pA l i); have := h2 (pB l i)
          unfold sOr; rw [if_pos ⟨by omega, by omega⟩]
        have hE : sEach (S.1.getD (pA l i) 0 ||| S.1.getD (pB l i) 0) = some (memb (S.1.getD (pA l i) 0 ||| S.1.getD (pB l i) 0)) := by unfold sEach; rw [if_pos (by omega)]
        have hL4 := ls_L4 300 (S.1.getD (pA l i) 0 ||| S.1.getD (pB l i) 0) (memb (S.1.getD (pA l i) 0 ||| S.1.getD (pB l i) 0)) S.1 fun x hx => by
          rw [h1]; exact bits_lt' hor ((mem_memb (by omega)).1 hx)
        have hcs : 0 ≤ cs l i ∧ cs l i ≤ 20 := by rw [← hC]; exact he.2.2.1
        rw [if_neg (by decide), st_nat (by omega : i < S.2.1.length), Option.bind_some, i2, Option.bind_some, Option.bind_some, hO, Option.bind_some, hE, Option.bind_some, hL4, Option.bind_some, w64 (by omega) (by omega)]
        rw [hk1] at ih ⊢
        exact ih
      · have hk1 : krS l S i = S := by unfold krS; rw [if_pos e]
        rw [if_pos rfl]
        rw [hk1] at ih ⊢
        exact ih
    · have : j = ord.length := by omega
      subst this
      rw [if_neg (by omega), List.drop_length]; rfl
theorem ls_L1 {m : Nat} (hm : m ≤ 24) : ∀ (g j : Nat) (v : List Int), m < j + g → j ≤ m → v.length = m → (∀ x, x < j → v.getD x 0 = (x : Int)) → span_Least_L1 300 (m : Int) g (j : Int) v = some ((List.range m).map fun (x : Nat) => (x : Int))
  | 0, j, v, h, hj, _, _ => by omega
  | g+1, j, v, h, hj, hv, hx => by
    rw [span_Least_L1_s]
    by_cases c : j < m
    · rw [if_pos (by omega), st_nat (by omega : j < v.length), Option.bind_some, w64n (by omega)]
      refine ls_L1 hm g (j+1) _ (by omega) (by omega) (by rw [List.length_set]; exact hv) fun x hxj => ?_
      by_cases e : j = x
      · subst e; simp [List.getD, hv, c]
      · rw [List.getD_eq_getElem?_getD, List.getElem?_set_ne e, ← List.getD_eq_getElem?_getD]; exact hx x (by omega)
    · rw [if_neg (by omega)]
      congr 1
      apply List.ext_getElem (by simp; omega)
      intro i h1 h2
      have := hx i (by omega)
      rw [List.getElem_map, List.getElem_range, ← this]
      simp [List.getD, h1]
theorem ls_L2 (hk : k ≤ 8) : ∀ (g j : Nat) (v : List Nat), k < j + g → j ≤ k → v.length = k → (∀ x, x < j → v.getD x 0 = 2 ^ x) → span_Least_L2 300 (k : Int) g (j : Int) v = some ((List.range k).map fun x => 2 ^ x)
  | 0, j, v, h, hj, _, _ => by omega
  | g+1, j, v, h, hj, hv, hx => by
    rw [span_Least_L2_s]
    by_cases c : j < k
    · have hw : sWith 0 (j : Int) = some (2 ^ j) := by unfold sWith; rw [if_pos ⟨by omega, by omega, by omega⟩, Int.toNat_natCast, Nat.zero_or]
      rw [if_pos (by omega), hw, Option.bind_some, st_nat (by omega : j < v.length), Option.bind_some, w64n (by omega)]
      refine ls_L2 hk g (j+1) _ (by omega) (by omega) (by rw [List.length_set]; exact hv) fun x hxj => ?_
      by_cases e : j = x
      · subst e; simp [List.getD, hv, c]
      · rw [List.getD_eq_getElem?_getD, List.getElem?_set_ne e, ← List.getD_eq_getElem?_getD]; exact hx x (by omega)
    · rw [if_neg (by omega)]
      congr 1
      apply List.ext_getElem (by simp; omega)
      intro i h1 h2
      have := hx i (by omega)
      rw [List.getElem_map, List.getElem_range, ← this]
      simp [List.getD, h1]
def st0 (k m : Nat) : St := ((List.range k).map fun x => 2 ^ x, List.replicate m false, 0)
theorem ok0 (hk : k ≤ 8) : okSt k l.length 0 (st0 k l.length) := by
  refine ⟨by simp [st0], fun v => ?_, by simp [st0], Int.le_refl _, Int.le_refl _⟩
  by_cases hv : v < k
  · have : (st0 k l.length).1.getD v 0 = 2 ^ v := by simp [st0, List.getD, hv]
    rw [this]; exact Nat.pow_lt_pow_right (by omega) hv
  · have : (st0 k l.length).1.getD v 0 = 0 := by rw [List.getD_eq_getElem?_getD, List.getElem?_eq_none (by simp [st0]; omega)]; rfl
    rw [this]; exact Nat.two_pow_pos k
theorem least_ev' (h1 : 1 ≤ k) (hk : k ≤ 8) (hin : InC k l) (h24 : l.length ≤ 24) (hch : span_Check 300 (k : Int) l = some 0) :
    ∃ ord : List Nat, ord.Nodup ∧ (∀ x, x ∈ ord ↔ x < l.length) ∧ (ord.Pairwise fun a b => cs l a < cs l b ∨ (cs l a = cs l b ∧ a < b)) ∧
      span_Least 300 (k : Int) l = some (if (ord.foldl (krS l) (st0 k l.length)).1.getD 0 0 = 2 ^ k - 1 then ((ord.foldl (krS l) (st0 k l.length)).2.1, (ord.foldl (krS l) (st0 k l.length)).2.2, 0) else ([], 0, 5)) := by
  have hp := Nat.pow_le_pow_right (n := 2) (by omega) hk
  obtain ⟨ord, o1, o2, o3, o4⟩ := order_ev (F := 300) l h24
  refine ⟨ord, o2, o3, o4, ?_⟩
  have hol : ord.length ≤ 24 := by
    have hp : ord.Perm (List.range l.length) := (List.perm_ext_iff_of_nodup o2 List.nodup_range).2 fun x => by rw [o3, List.mem_range]
    have := hp.length_eq; rw [List.length_range] at this; omega
  have e1 : mkI (l.length : Int) = some (List.replicate l.length 0) := by unfold mkI; rw [if_pos (by omega), Int.toNat_natCast]
  have e2 : span_Least_L1 300 (((List.replicate l.length (0 : Int)).length : Nat) : Int) 300 0 (List.replicate l.length 0) = some ((List.range l.length).map fun (x : Nat) => (x : Int)) := by
    rw [List.length_replicate]; exact ls_L1 h24 300 0 _ (by omega) (Nat.zero_le _) (by simp) fun x hx => by omega
  have e3 : mkM (k : Int) = some (List.replicate k 0) := by unfold mkM; rw [if_pos (by omega), Int.toNat_natCast]
  have e4 : span_Least_L2 300 (((List.replicate k (0 : Nat)).length : Nat) : Int) 300 0 (List.replicate k 0) = some ((List.range k).map fun x => 2 ^ x) := by
    rw [List.length_replicate]; exact ls_L2 hk 300 0 _ (by omega) (Nat.zero_le _) (by simp) fun x hx => by omega
  have e5 : mkB (l.length : Int) = some (List.replicate l.length false) := by unfold mkB; rw [if_pos (by omega), Int.toNat_natCast]
  have e6 := ls_L3 hk hin h24 (ord := ord) (fun x hx => (o3 x).1 hx) hol 300 0 (st0 k l.length) (by omega) (Nat.zero_le _) (ok0 hk)
  rw [List.drop_zero] at e6
  have hfin : ∀ (xs : List Nat) (j : Nat) (S : St), (∀ x ∈ xs, x < l.length) → okSt k l.length j S → okSt k l.length (j + xs.length) (xs.foldl (krS l) S) := by
    intro xs
    induction xs with
    | nil => intro j S _ h; exact h
    | cons x xs ih =>
      intro j S hx h
      have := ih (j+1) _ (fun y hy => hx y (List.mem_cons_of_mem _ hy)) (okSt_step hk hin (hx x List.mem_cons_self) h)
      rw [List.length_cons, show j + (xs.length + 1) = j + 1 + xs.length by omega]; exact this
  obtain ⟨f1, f2, _⟩ := hfin ord 0 _ (fun x hx => (o3 x).1 hx) (ok0 hk)
  obtain ⟨R, hR⟩ : ∃ R, ord.foldl (krS l) (st0 k l.length) = R := ⟨_, rfl⟩
  rw [hR] at e6 f1 f2 ⊢
  have hb : sBelow (k : Int) = some (2 ^ k - 1) := by unfold sBelow; rw [if_pos (by omega), Int.toNat_natCast]
  have h0 : ix R.1 0 = some (R.1.getD 0 0) := ix_at (l := R.1) (i := 0) 0 (by omega)
  unfold span_Least
  rw [hch, Option.bind_some, if_neg (by decide), e1, Option.bind_some, e2, Option.bind_some, o1, Option.bind_some, e3, Option.bind_some, e4, Option.bind_some, e5, Option.bind_some,
    show span_Least_L3 300 l (ord.map fun (x : Nat) => (x : Int)) 300 0 ((List.range k).map fun x => 2 ^ x) (List.replicate l.length false) 0 = _ from e6, Option.bind_some]
  rw [h0, Option.bind_some, hb, Option.bind_some]
  by_cases c : R.1.getD 0 0 = 2 ^ k - 1
  · rw [if_pos c, if_neg (by rw [bne_iff_ne]; exact fun h => h c)]
  · rw [if_neg c, if_pos (by rw [bne_iff_ne]; exact c)]
end
end Go.Proofs.Ytccdnokddkpmgaa
