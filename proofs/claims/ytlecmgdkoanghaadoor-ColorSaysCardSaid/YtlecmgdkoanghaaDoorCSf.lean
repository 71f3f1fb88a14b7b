import Derived.Test.YtlecmgdkoanghaaDoorCSe
import Derived.Test.YtlecmgdkoanghaaDoorCsB
/- plain: the document's order; ColorSays holds -/
set_option linter.all false
set_option maxRecDepth 100000
namespace Go.Proofs.YtlecmgdkoanghaaDoor
open Go.RowKit Go.Shelf Pl
/-- the first of several for which D is least -/
def bestF (D : Nat → Nat) : List Nat → Nat → Nat
  | [], b => b
  | x :: xs, b => bestF D xs (if D x < D b then x else b)
theorem bestF_mem (D : Nat → Nat) : ∀ (xs : List Nat) (b : Nat), bestF D xs b ∈ b :: xs
  | [], b => List.mem_cons_self
  | x :: xs, b => by
    unfold bestF
    have := bestF_mem D xs (if D x < D b then x else b)
    rcases List.mem_cons.1 this with h | h
    · rw [h]
      split
      · exact List.mem_cons_of_mem _ List.mem_cons_self
      · exact List.mem_cons_self
    · exact List.mem_cons_of_mem _ (List.mem_cons_of_mem _ h)
def lastF (a : Nat → Nat → Bool) : Nat → List Nat → Nat → Nat → List Nat × Nat
  | 0, os, M, _ => (os, M)
  | g+1, os, M, left => match memb left with
    | [] => (os, M)
    | x :: xs => lastF a g (bestF (dS a left) xs x :: os) (max M (dS a left (bestF (dS a left) xs x))) (ndiff left (2 ^ bestF (dS a left) xs x))
theorem memb_out {left b : Nat} : memb (ndiff left (2 ^ b)) = (memb left).filter fun x => decide (x ≠ b) := by
  unfold memb
  rw [List.filter_filter]
  refine List.filter_congr fun x _ => ?_
  rw [ndiff_testBit, Nat.testBit_two_pow]
  by_cases e : x = b
  · subst e; simp
  · have e' : ¬ b = x := fun q => e q.symm
    simp [e, e']
theorem memb_nodup (m : Nat) : (memb m).Nodup := List.Pairwise.filter _ List.nodup_range
theorem nodup_out : ∀ {l : List Nat} {b : Nat}, l.Nodup → b ∈ l → (l.filter fun x => decide (x ≠ b)).length + 1 = l.length
  | x :: l, b, hn, hb => by
    obtain ⟨h1, h2⟩ := List.nodup_cons.1 hn
    rw [List.filter_cons]
    by_cases e : x = b
    · subst e
      rw [if_neg (by simp), List.filter_eq_self.2 fun y hy => by
        simp; exact fun q => h1 (q ▸ hy)]
      rfl
    · rw [if_pos (by simpa using e)]
      have := nodup_out h2 ((List.mem_cons.1 hb).resolve_left fun q => e q.symm)
      simp only [List.length_cons]; omega
theorem memb_less {left b : Nat} (hb : b ∈ memb left) : (memb (ndiff left (2 ^ b))).length + 1 = (memb left).length := by
  rw [memb_out]; exact nodup_out (memb_nodup left) hb
theorem laF_L2 {bes : List Nat} {a : Nat → Nat → Bool} (hb : ∀ v, bes.getD v 0 < 65536) (hba : ∀ v u, (bes.getD v 0).testBit u = a v u) {left : Nat} (hS : left < 65536) : ∀ (xs : List Nat) (b : Nat), b < bes.length → (∀ x ∈ xs, x < bes.length) →
    color_Last_L2 300 bes left xs (b : Int) = some ((bestF (dS a left) xs b : Nat) : Int)
  | [], b, _, _ => by rw [color_Last_L2_n]; rfl
  | x :: xs, b, hbl, hx => by
    have hxl := hx x List.mem_cons_self
    have e1 := len_ev hb hba (S := left) (v := x) hS
    have e2 := len_ev hb hba (S := left) (v := b) hS
    rw [color_Last_L2_c, if_neg (by omega), ix_at 0 hxl, Option.bind_some, e1.1, Option.bind_some, e1.2, Option.bind_some, ix_at 0 hbl, Option.bind_some, e2.1, Option.bind_some, e2.2, Option.bind_some]
    unfold bestF
    by_cases c : dS a left x < dS a left b
    · rw [if_pos (by omega), Option.bind_some, if_pos rfl, if_pos c]
      exact laF_L2 hb hba hS xs x hxl (fun y hy => hx y (List.mem_cons_of_mem _ hy))
    · rw [if_neg (by omega), Option.bind_some, if_neg (by decide), if_neg c]
      exact laF_L2 hb hba hS xs b hbl (fun y hy => hx y (List.mem_cons_of_mem _ hy))
theorem laF_L1 {a : Nat → Nat → Bool} {bes : List Nat} {k : Nat} (h8 : k ≤ 8) (hbl : bes.length = k) (hb : ∀ v, bes.getD v 0 < 65536) (hba : ∀ v u, (bes.getD v 0).testBit u = a v u) : ∀ (g : Nat) (os : List Nat) (M left : Nat), (memb left).length < g → left < 2 ^ k → os.length + (memb left).length ≤ 100 →
    ∃ z, color_Last_L1 300 bes g (rowN os) (M : Int) left = some (rowN (lastF a g os M left).1, (((lastF a g os M left).2 : Nat) : Int), z)
  | 0, os, M, left, h, _, _ => by omega
  | g+1, os, M, left, h, hlt, hol => by
    have hp := Nat.pow_le_pow_right (n := 2) (by omega) h8
    have h16 : left < 65536 := by omega
    rw [color_Last_L1_s]
    unfold lastF
    by_cases hz : left = 0
    · subst hz
      rw [if_neg (by decide)]
      exact ⟨0, rfl⟩
    · rw [if_pos (bne_iff_ne.2 hz)]
      unfold sEach
      rw [if_pos h16, Option.bind_some]
      have hml : ∀ x ∈ memb left, x < bes.length := fun x hx => by rw [hbl]; exact bit_lt hlt ((mem_memb h16).1 hx)
      cases hm : memb left with
      | nil => exact absurd hm (memb_ne h16 hz)
      | cons x xs =>
        rw [hm] at hml
        have hbm := bestF_mem (dS a left) xs x
        have e1 : color_Last_L2 300 bes left (x :: xs) (-1) = some ((bestF (dS a left) xs x : Nat) : Int) := by
          rw [color_Last_L2_c, if_pos (by decide), Option.bind_some, if_pos rfl]
          exact laF_L2 hb hba h16 xs x (hml x List.mem_cons_self) (fun y hy => hml y (List.mem_cons_of_mem _ hy))
        rw [e1, Option.bind_some]
        dsimp only
        generalize bestF (dS a left) xs x = b at *
        have hbk := hml b hbm
        rw [← hm] at hbm
        have hlen := len_ev hb hba (S := left) (v := b) h16
        have hless := memb_less hbm
        rw [ix_at 0 hbk, Option.bind_some, hlen.1, Option.bind_some, hlen.2, Option.bind_some]
        have hap : appL [(b : Int)] (rowN os) = some (rowN (b :: os)) := by
          unfold appL rowN
          rw [List.length_map, if_pos (by rw [List.length_singleton]; omega)]; rfl
        have hwo : sWithout left (b : Int) = some (ndiff left (2 ^ b)) := by
          unfold sWithout; rw [if_pos ⟨h16, by omega, by omega⟩, Int.toNat_natCast]
        have hgm : gmax (M : Int) ((dS a left b : Nat) : Int) = ((max M (dS a left b) : Nat) : Int) := by
          unfold gmax
          split <;> omega
        rw [hap, Option.bind_some, hwo, Option.bind_some, hgm]
        exact laF_L1 h8 hbl hb hba g (b :: os) _ _ (by omega) (Nat.lt_of_le_of_lt (ndiff_le _ _) hlt) (by rw [List.length_cons]; omega)
/-! ### the document's order -/
/-- the points of a set from i on -/
def restM (k left i : Nat) : List Nat := (List.range' i (k - i)).filter fun v => left.testBit v
theorem restM_step {k left i : Nat} (h : i < k) : restM k left i = if left.testBit i then i :: restM k left (i+1) else restM k left (i+1) := by
  unfold restM
  rw [show k - i = (k - (i+1)) + 1 by omega, List.range'_succ, List.filter_cons]
theorem restM_zero {k left : Nat} (hk : k ≤ 16) (h : left < 2 ^ k) : restM k left 0 = memb left := by
  unfold restM memb
  have e : List.range 16 = List.range k ++ (List.range (16 - k)).map (k + ·) := by
    rw [← List.range_add]; congr 1; omega
  have e0 : ((List.range (16 - k)).map (k + ·)).filter (fun i => left.testBit i) = [] := by
    rw [List.filter_eq_nil_iff]
    intro x hx
    obtain ⟨y, _, rfl⟩ := List.mem_map.1 hx
    rw [Nat.testBit_lt_two_pow (Nat.lt_of_lt_of_le h (Nat.pow_le_pow_right (by omega) (by omega)))]; simp
  rw [e, List.filter_append, e0, List.append_nil, Nat.sub_zero, List.range_eq_range']
structure Gone (k left : Nat) (gone : List Int) : Prop where
  len : gone.length ≤ 8
  mem : ∀ i : Nat, i < k → ((i : Int) ∈ gone ↔ left.testBit i = false)
theorem rl_L3 {l : List (Int × Int)} (hl : l.length ≤ 24) {k left : Nat} (h8 : k ≤ 8) {gone : List Int} (hg : Gone k left gone) (i : Nat) : ∀ (g j m : Nat), k < j + g → j ≤ k → m ≤ j →
    ∃ x, R3_Last_L3 300 (k : Int) l gone (i : Int) g (m : Int) (j : Int) = some (((m + ((restM k left j).filter (aL l i)).length : Nat) : Int), x)
  | 0, j, m, h, hj, _ => by omega
  | g+1, j, m, h, hj, hm => by
    have hgl := hg.len
    rw [R3_Last_L3_s]
    by_cases hlt : j < k
    · rw [if_pos (by omega), R1_Has_ev _ (by omega) (by omega), Option.bind_some, w64n (by omega), w64n (by omega), R1_Beside_ev _ _ (by omega) (by omega), restM_step hlt]
      have hb : besL l (i : Int) (j : Int) = aL l i j := rfl
      obtain ⟨x1, q1⟩ := rl_L3 hl h8 hg i g (j+1) m (by omega) (by omega) (by omega)
      obtain ⟨x2, q2⟩ := rl_L3 hl h8 hg i g (j+1) (m+1) (by omega) (by omega) (by omega)
      rw [hb]
      cases c : left.testBit j
      · rw [decide_eq_true ((hg.mem j hlt).2 c), if_pos rfl, Option.bind_some, if_neg (by decide), q1, if_neg (by decide)]
        exact ⟨x1, rfl⟩
      · rw [decide_eq_false (fun q => by rw [(hg.mem j hlt).1 q] at c; cases c), if_neg (by decide), Option.bind_some, if_pos rfl, List.filter_cons]
        cases e : aL l i j
        · rw [if_neg (by decide), Option.bind_some, if_neg (by decide), q1, if_neg (by decide)]
          exact ⟨x1, rfl⟩
        · rw [if_pos rfl, Option.bind_some, if_pos rfl, q2, if_pos rfl]
          exact ⟨x2, by rw [List.length_cons]; congr 2; omega⟩
    · have : j = k := by omega
      subst this
      rw [if_neg (by omega)]
      exact ⟨_, by unfold restM; rw [Nat.sub_self]; rfl⟩
theorem rl_L3' {l : List (Int × Int)} (hl : l.length ≤ 24) {k left : Nat} (h8 : k ≤ 8) (hlt : left < 2 ^ k) {gone : List Int} (hg : Gone k left gone) (i : Nat) : ∃ x, R3_Last_L3 300 (k : Int) l gone (i : Int) 300 0 0 = some (((dS (aL l) left i : Nat) : Int), x) := by
  obtain ⟨x, hx⟩ := rl_L3 hl h8 hg i 300 0 0 (by omega) (by omega) (by omega)
  rw [restM_zero (by omega) hlt, Nat.zero_add] at hx
  exact ⟨x, hx⟩
theorem rl_L2b {l : List (Int × Int)} (hl : l.length ≤ 24) {k left : Nat} (h8 : k ≤ 8) (hlt' : left < 2 ^ k) {gone : List Int} (hg : Gone k left gone) : ∀ (g i b : Nat), k < i + g → i ≤ k →
    ∃ x, R3_Last_L2 300 (k : Int) l gone g (b : Int) ((dS (aL l) left b : Nat) : Int) (i : Int) = some (((bestF (dS (aL l) left) (restM k left i) b : Nat) : Int), ((dS (aL l) left (bestF (dS (aL l) left) (restM k left i) b) : Nat) : Int), x)
  | 0, i, b, h, hj => by omega
  | g+1, i, b, h, hj => by
    have hgl := hg.len
    rw [R3_Last_L2_s]
    by_cases hlt : i < k
    · obtain ⟨x, hx⟩ := rl_L3' hl h8 hlt' hg i
      rw [if_pos (by omega), R1_Has_ev _ (by omega) (by omega), Option.bind_some, w64n (by omega), restM_step hlt]
      cases c : left.testBit i
      · rw [decide_eq_true ((hg.mem i hlt).2 c), if_pos rfl, if_neg (by decide)]
        exact rl_L2b hl h8 hlt' hg g (i+1) b (by omega) (by omega)
      · rw [decide_eq_false (fun q => by rw [(hg.mem i hlt).1 q] at c; cases c), if_neg (by decide), hx, Option.bind_some, if_pos rfl]
        dsimp only
        unfold bestF
        by_cases e : dS (aL l) left i < dS (aL l) left b
        · rw [if_pos (by omega), if_pos e]
          exact rl_L2b hl h8 hlt' hg g (i+1) i (by omega) (by omega)
        · rw [if_neg (by omega), if_neg e]
          exact rl_L2b hl h8 hlt' hg g (i+1) b (by omega) (by omega)
    · have : i = k := by omega
      subst this
      rw [if_neg (by omega)]
      exact ⟨_, by unfold restM; rw [Nat.sub_self]; rfl⟩
theorem dS_lt {l : List (Int × Int)} (hne : ∀ p ∈ l, p.1 ≠ p.2) {k left v : Nat} (h8 : k ≤ 8) (hlt : left < 2 ^ k) (hv : left.testBit v = true) : dS (aL l) left v < k := by
  have hp := Nat.pow_le_pow_right (n := 2) (by omega) h8
  have hm := (mem_memb (m := left) (i := v) (by omega)).2 hv
  have h1 := memb_less hm
  have h2 : dS (aL l) left v ≤ (memb (ndiff left (2 ^ v))).length := by
    unfold dS
    rw [memb_out]
    refine nodup_len_le (List.Pairwise.filter _ (memb_nodup left)) fun x hx => ?_
    obtain ⟨x1, x2⟩ := List.mem_filter.1 hx
    refine List.mem_filter.2 ⟨x1, decide_eq_true fun e => ?_⟩
    subst e
    rw [aL_irr hne] at x2; cases x2
  have h3 : (memb left).length ≤ k := by
    have := nodup_len_le (l := memb left) (l' := List.range k) (memb_nodup left) (fun x hx => List.mem_range.2 (bit_lt hlt ((mem_memb (by omega)).1 hx)))
    rwa [List.length_range] at this
  omega
theorem rl_L2 {l : List (Int × Int)} (hne : ∀ p ∈ l, p.1 ≠ p.2) (hl : l.length ≤ 24) {k left : Nat} (h8 : k ≤ 8) (hlt' : left < 2 ^ k) {gone : List Int} (hg : Gone k left gone) : ∀ (g i : Nat), k < i + g → i ≤ k → ∀ y ys, restM k left i = y :: ys →
    ∃ x, R3_Last_L2 300 (k : Int) l gone g (-1) (k : Int) (i : Int) = some (((bestF (dS (aL l) left) ys y : Nat) : Int), ((dS (aL l) left (bestF (dS (aL l) left) ys y) : Nat) : Int), x)
  | 0, i, h, hj, _, _, _ => by omega
  | g+1, i, h, hj, y, ys, hr => by
    have hgl := hg.len
    rw [R3_Last_L2_s]
    by_cases hlt : i < k
    · obtain ⟨x, hx⟩ := rl_L3' hl h8 hlt' hg i
      rw [restM_step hlt] at hr
      rw [if_pos (by omega), R1_Has_ev _ (by omega) (by omega), Option.bind_some, w64n (by omega)]
      cases c : left.testBit i
      · rw [c, if_neg (by decide)] at hr
        rw [decide_eq_true ((hg.mem i hlt).2 c), if_pos rfl]
        exact rl_L2 hne hl h8 hlt' hg g (i+1) (by omega) (by omega) y ys hr
      · rw [c, if_pos rfl] at hr
        obtain ⟨rfl, rfl⟩ := List.cons.inj hr
        have := dS_lt hne h8 hlt' c
        rw [decide_eq_false (fun q => by rw [(hg.mem i hlt).1 q] at c; cases c), if_neg (by decide), hx, Option.bind_some]
        dsimp only
        rw [if_pos (by omega)]
        exact rl_L2b hl h8 hlt' hg g (i+1) i (by omega) (by omega)
    · have : i = k := by omega
      subst this
      unfold restM at hr
      rw [Nat.sub_self] at hr
      cases hr
theorem rl_L1 {l : List (Int × Int)} (hne : ∀ p ∈ l, p.1 ≠ p.2) (hl : l.length ≤ 24) {k : Nat} (h8 : k ≤ 8) : ∀ (g : Nat) (os : List Nat) (M left : Nat), (memb left).length < g → left < 2 ^ k → os.length + (memb left).length = k → Gone k left (rowN os.reverse) →
    R3_Last_L1 300 (k : Int) l g (rowN os.reverse) (M : Int) = some (rowN (lastF (aL l) g os M left).1.reverse, (((lastF (aL l) g os M left).2 : Nat) : Int)) ∧ (lastF (aL l) g os M left).1.length = k
  | 0, os, M, left, h, _, _, _ => by omega
  | g+1, os, M, left, h, hlt, hol, hg => by
    have hp := Nat.pow_le_pow_right (n := 2) (by omega) h8
    have hlen : (rowN os.reverse).length = os.length := by unfold rowN; rw [List.length_map, List.length_reverse]
    rw [R3_Last_L1_s, hlen]
    unfold lastF
    cases hm : memb left with
    | nil =>
      rw [hm, List.length_nil] at hol
      rw [if_neg (by omega)]
      exact ⟨rfl, by dsimp only; omega⟩
    | cons x xs =>
      obtain ⟨y, hy⟩ := rl_L2 hne hl h8 hlt hg 300 0 (by omega) (by omega) x xs (by rw [restM_zero (by omega) hlt, hm])
      have hbm := bestF_mem (dS (aL l) left) xs x
      rw [hm, List.length_cons] at hol
      rw [if_pos (by omega), show R3_Last_L2 300 (k : Int) l (rowN os.reverse) 300 (-1) (k : Int) 0 = _ from hy, Option.bind_some]
      dsimp only
      generalize bestF (dS (aL l) left) xs x = b at *
      rw [← hm] at hbm
      have hbit := (mem_memb (by omega)).1 hbm
      have hbk := bit_lt hlt hbit
      have hless := memb_less hbm
      rw [hm, List.length_cons] at hless
      rw [hm, List.length_cons] at h
      have hap : app (rowN os.reverse) (b : Int) = some (rowN (b :: os).reverse) := by
        unfold app
        rw [hlen, if_pos (by omega)]
        unfold rowN
        rw [List.reverse_cons, List.map_append]; rfl
      have hg' : Gone k (ndiff left (2 ^ b)) (rowN (b :: os).reverse) := by
        refine ⟨by unfold rowN; rw [List.length_map, List.length_reverse, List.length_cons]; omega, fun i hi => ?_⟩
        have e1 : ((i : Int) ∈ rowN (b :: os).reverse) ↔ i = b ∨ (i : Int) ∈ rowN os.reverse := by
          unfold rowN
          rw [List.reverse_cons, List.map_append, List.mem_append]
          constructor
          · rintro (q | q)
            · exact .inr q
            · left; simp at q; omega
          · rintro (q | q)
            · right; simp; omega
            · exact .inl q
        rw [e1, hg.mem i hi, ndiff_testBit, Nat.testBit_two_pow]
        by_cases e : i = b
        · subst e; simp
        · have e' : ¬ b = i := fun q => e q.symm
          simp [e, e']
      have ih := rl_L1 hne hl h8 g (b :: os) (max M (dS (aL l) left b)) (ndiff left (2 ^ b)) (by omega) (Nat.lt_of_le_of_lt (ndiff_le _ _) hlt) (by rw [List.length_cons]; omega) hg'
      by_cases c : M < dS (aL l) left b
      · rw [if_pos (by omega), hap, Option.bind_some]
        rw [Nat.max_eq_right (by omega)] at ih ⊢
        exact ih
      · rw [if_neg (by omega), hap, Option.bind_some]
        rw [Nat.max_eq_left (by omega)] at ih ⊢
        exact ih
theorem rl_L4 {gone : List Int} (hl : gone.length ≤ 8) : ∀ (g i : Nat) (out : List Int), i ≤ gone.length → i < g → out.length + i ≤ 100 →
    R3_Last_L4 300 gone g out ((i : Int) - 1) = some (out ++ (gone.take i).reverse, -1)
  | 0, i, out, h, hg, _ => by omega
  | g+1, 0, out, h, hg, ho => by
    rw [R3_Last_L4_s, if_neg (by omega)]
    simp
  | g+1, i+1, out, h, hg, ho => by
    have e1 : ((i + 1 : Nat) : Int) - 1 = (i : Int) := by omega
    rw [R3_Last_L4_s, e1, if_pos (by omega), ix_nat (by omega), Option.bind_some]
    unfold app
    rw [if_pos (by omega), Option.bind_some, w64 (by omega) (by omega), rl_L4 hl g i _ (by omega) (by omega) (by rw [List.length_append, List.length_singleton]; omega)]
    rw [List.take_succ_eq_append_getElem (by omega), List.reverse_append, List.append_assoc]; rfl
theorem last2_ev {k : Nat} {l : List (Int × Int)} (h1 : 1 ≤ k) (h8 : k ≤ 8) (h24 : l.length ≤ 24) (hin : InL k l) (hne : ∀ p ∈ l, p.1 ≠ p.2) :
    ∃ (os : List Nat) (M : Int), color_Last 300 (k : Int) l = some (rowN os, M, 0) ∧ R3_Last 300 (k : Int) l = some (rowN os, M) ∧ os.length = k := by
  have hg : good (k : Int) l := ⟨wf8 h8, by unfold maxLen; omega⟩
  have he := errG_ok h1 h8 h24 hin hne
  have hr := besM_row hin
  have hp := Nat.pow_le_pow_right (n := 2) (by omega) h8
  have hpos := Nat.two_pow_pos k
  have hfull : (memb (2 ^ k - 1)).length = k := by
    have e : memb (2 ^ k - 1) = List.range k := by
      rw [← restM_zero (k := k) (by omega) (by omega)]
      unfold restM
      rw [Nat.sub_zero, ← List.range_eq_range', List.filter_eq_self]
      intro v hv
      rw [Nat.testBit_two_pow_sub_one]; exact decide_eq_true (List.mem_range.1 hv)
    rw [e, List.length_range]
  obtain ⟨z, e1⟩ := laF_L1 (a := aL l) (bes := besM k l) h8 hr.1 (fun v => getD_lt (fun m hm => by have := hr.2 m hm; omega) v) (fun v u => adj_besL hin v u) 300 [] 0 (2 ^ k - 1) (by omega) (by omega) (by simp; omega)
  obtain ⟨e2, e3⟩ := rl_L1 hne h24 h8 300 [] 0 (2 ^ k - 1) (by omega) (by omega) (by simp; omega) ⟨by simp [rowN], fun i hi => by
    rw [Nat.testBit_two_pow_sub_one, decide_eq_true hi]; simp [rowN]⟩
  refine ⟨(lastF (aL l) 300 [] 0 (2 ^ k - 1)).1, (((lastF (aL l) 300 [] 0 (2 ^ k - 1)).2 : Nat) : Int), ?_, ?_, e3⟩
  · unfold color_Last
    rw [mCheck_ev hg, he, Option.bind_some, if_neg (by decide), mBeside_ev hg he, Option.bind_some]
    unfold sBelow
    rw [if_pos (by omega), Int.toNat_natCast, Option.bind_some, show color_Last_L1 300 (besM k l) 300 [] 0 (2 ^ k - 1) = _ from e1]; rfl
  · unfold R3_Last
    rw [show R3_Last_L1 300 (k : Int) l 300 [] 0 = _ from e2, Option.bind_some, w64 (by omega) (by omega)]
    dsimp only
    have hrl : (rowN (lastF (aL l) 300 [] 0 (2 ^ k - 1)).1.reverse).length = k := by unfold rowN; rw [List.length_map, List.length_reverse, e3]
    rw [rl_L4 (by omega) 300 k [] (by omega) (by omega) (by simp; omega), Option.bind_some, List.nil_append, List.take_of_length_le (by omega)]
    unfold rowN
    rw [← List.map_reverse, List.reverse_reverse]
theorem mErr_self (c : Int) : mErr c c = some true := by unfold mErr; rw [decide_eq_true rfl]
theorem csays_ev {n : Int} {l : List (Int × Int)} (hg : good n l) (os : List Int) : L3_ColorSays 300 n l os = some true := by
  unfold L3_ColorSays
  rw [R1_Lines_big (by omega), Option.bind_some]
  by_cases he : errG n l = 0
  · obtain ⟨k, rfl, h1, h8, h24, hin, hne⟩ := errG_zero he
    obtain ⟨ps, M, a1, a2, a3⟩ := last2_ev h1 h8 h24 hin hne
    have hpl : (rowN ps).length = k := by unfold rowN; rw [List.length_map, a3]
    rw [he, if_pos (by decide), Option.bind_some, if_pos rfl, least3_ev h24 h1 h8, Option.bind_some, a2, Option.bind_some, Option.bind_some, least_ev h1 h8 h24 hin hne, Option.bind_some]
    dsimp only
    rw [mErr_self, Option.bind_some, if_pos rfl, if_pos (by simp), Option.bind_some, a1, Option.bind_some]
    dsimp only
    rw [mErr_self, Option.bind_some, if_pos rfl, SE_Ints_ev (by omega) (by omega), decide_eq_true rfl, Option.bind_some, if_pos rfl, Option.bind_some, if_pos rfl, if_pos (by simp), Option.bind_some, w64 (x := (k : Int) - 1) (by omega) (by omega)]
    rcases by_ev h1 h8 h24 hin hne os with ⟨os', rfl, hol, hok, hn, out, o1, G⟩ | ⟨e, e1, e2, q⟩
    · have hlen : (rowN os').length = k := by unfold rowN; rw [List.length_map, hol]
      have hall : allIn (rowN os') 0 ((k : Int) - 1) = true := List.all_eq_true.2 fun z hz => by
        obtain ⟨v, hv, rfl⟩ := List.mem_map.1 hz
        have := hok v hv
        exact decide_eq_true ⟨by omega, by omega⟩
      have hnd : (rowN os').Nodup := by
        unfold rowN List.Nodup
        rw [List.pairwise_map]
        exact hn.imp fun hh e => hh (Int.ofNat.inj e)
      have htw : R1_Twice 300 (rowN os') = some false := by
        rcases twice_ev (os := rowN os') (by omega) with ⟨q, _⟩ | ⟨_, q⟩
        · exact q
        · exact absurd hnd q
      have hgl := G.len
      rw [if_pos (by decide), hlen, if_neg (by simp), Option.bind_some, if_neg (by decide), Option.bind_some, if_pos (by decide), R1_All_ev _ _ (by omega) (by omega), hall, Option.bind_some, if_pos rfl, Option.bind_some, if_neg (by decide), Option.bind_some, if_pos (by decide), htw, Option.bind_some, if_neg (by decide), Option.bind_some, if_neg (by decide), Option.bind_some, if_pos (by decide), Option.bind_some, if_pos rfl,
        colours_ev h24 h8 hol hok hn G, Option.bind_some, Option.bind_some, o1, Option.bind_some]
      dsimp only
      rw [if_pos rfl, if_pos rfl, Option.bind_some, if_pos rfl, mErr_self, Option.bind_some, if_pos rfl, Option.bind_some, if_pos rfl, SE_Ints_ev (by omega) (by omega), decide_eq_true rfl, Option.bind_some, if_pos rfl]; rfl
    · have hfin : ∀ f : Int, f ≠ 0 → ((if (f == 0) = true then some true else some false).bind fun b23 => if b23 = true then (R3_Colours 300 (k : Int) l os).bind fun y24 => some y24 else some []) = some [] := fun f hf => by
        rw [if_neg (by rw [beq_iff_eq]; exact hf), Option.bind_some, if_neg (by decide)]
      rcases q with ⟨q1, rfl⟩ | ⟨q1, q2, rfl⟩ | ⟨q1, q2, q3, rfl⟩
      · rw [if_pos (by decide), if_pos (by rw [bne_iff_ne]; omega), Option.bind_some, if_pos rfl, Option.bind_some, if_neg (by decide), Option.bind_some, if_neg (by decide), Option.bind_some, if_neg (by decide), Option.bind_some, if_neg (by decide), Option.bind_some, hfin 3 (by decide), Option.bind_some, e2, Option.bind_some]
        dsimp only
        rw [if_pos rfl, if_pos rfl, Option.bind_some, if_pos rfl, mErr_self, Option.bind_some, if_pos rfl, Option.bind_some, if_pos rfl, SE_Ints_ev (by simp) (by simp), decide_eq_true rfl, Option.bind_some, if_pos rfl]; rfl
      · rw [if_pos (by decide), if_neg (by rw [bne_iff_ne]; omega), Option.bind_some, if_neg (by decide), Option.bind_some, if_pos (by decide), R1_All_ev _ _ (by omega) (by omega), q2, Option.bind_some, if_neg (by decide), Option.bind_some, if_pos rfl, Option.bind_some, if_neg (by decide), Option.bind_some, if_neg (by decide), Option.bind_some, hfin 1 (by decide), Option.bind_some, e2, Option.bind_some]
        dsimp only
        rw [if_pos rfl, if_pos rfl, Option.bind_some, if_pos rfl, mErr_self, Option.bind_some, if_pos rfl, Option.bind_some, if_pos rfl, SE_Ints_ev (by simp) (by simp), decide_eq_true rfl, Option.bind_some, if_pos rfl]; rfl
      · have htw : R1_Twice 300 os = some true := by
          rcases twice_ev (os := os) (by omega) with ⟨_, q⟩ | ⟨q, _⟩
          · exact absurd q q3
          · exact q
        rw [if_pos (by decide), if_neg (by rw [bne_iff_ne]; omega), Option.bind_some, if_neg (by decide), Option.bind_some, if_pos (by decide), R1_All_ev _ _ (by omega) (by omega), q2, Option.bind_some, if_pos rfl, Option.bind_some, if_neg (by decide), Option.bind_some, if_pos (by decide), htw, Option.bind_some, if_pos rfl, Option.bind_some, if_pos rfl, Option.bind_some, hfin 6 (by decide), Option.bind_some, e2, Option.bind_some]
        dsimp only
        rw [if_pos rfl, Option.bind_some, if_pos rfl, mErr_self, Option.bind_some, if_pos rfl, Option.bind_some, if_pos rfl, SE_Ints_ev (by simp) (by simp), decide_eq_true rfl, Option.bind_some, if_pos rfl]; rfl
  · have hne : ¬ ((errG n l == 0) = true) := by rw [beq_iff_eq]; exact he
    have hL : color_Last 300 n l = some ([], 0, errG n l) := by
      unfold color_Last
      rw [mCheck_ev hg, Option.bind_some, if_pos (bne_iff_ne.2 he)]
    have hB : color_By 300 n l os = some ([], errG n l) := by
      unfold color_By
      rw [mCheck_ev hg, Option.bind_some, if_pos (bne_iff_ne.2 he)]
    rw [if_neg hne, Option.bind_some, if_neg (by decide), Option.bind_some, least_bad hg he, Option.bind_some]
    dsimp only
    rw [mErr_self, Option.bind_some, if_pos rfl, if_pos (by decide), Option.bind_some, hL, Option.bind_some]
    dsimp only
    rw [mErr_self, Option.bind_some, if_pos rfl, SE_Ints_ev (by simp) (by simp), decide_eq_true rfl, Option.bind_some, if_pos rfl, Option.bind_some, if_pos rfl, if_pos (by decide), Option.bind_some, if_neg hne, Option.bind_some, if_neg (by decide), Option.bind_some, if_neg hne, Option.bind_some, if_neg (by decide), Option.bind_some, if_neg hne, Option.bind_some, if_neg (by decide), Option.bind_some, if_neg hne, Option.bind_some, if_neg (by decide), Option.bind_some, hB, Option.bind_some]
    dsimp only
    rw [if_pos rfl, if_pos rfl, Option.bind_some, if_pos rfl, mErr_self, Option.bind_some, if_pos rfl, Option.bind_some, if_pos rfl, SE_Ints_ev (by simp) (by simp), decide_eq_true rfl, Option.bind_some, if_pos rfl]; rfl
theorem colorSays_any (w : World) (htc : TyCell w) (n : Int) (hn : (Lit.int .i64 n).wf = true) (A : Option Addr) (cap : Nat) (l : List (Int × Int)) (hr : ReadsL w w.heap.size A l) (hl : l.length ≤ maxLen) (A2 : Option Addr) (cap2 : Nat) (os : List Int) (hr2 : ReadsI w w.heap.size A2 os ∧ os.length ≤ 17592186044416 ∧ os.length ≤ cap2 ∧ ∀ x ∈ os, (Lit.int .i64 x).wf = true) :
    Calls Tryd.prog 3 #[.int .i64 n, .slice A l.length cap, .slice A2 os.length cap2] w fun e w' => e = .returned (.bool true) ∧ Below w.heap.size w w' :=
  L3_ColorSays_ok w htc cap hr cap2 hr2.1 hr2.2.2.1 (csays_ev ⟨hn, hl⟩ os)
end Go.Proofs.YtlecmgdkoanghaaDoor
