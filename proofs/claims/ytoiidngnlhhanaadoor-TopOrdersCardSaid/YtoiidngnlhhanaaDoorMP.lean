import Derived.Test.YtoiidngnlhhanaaDoorEv2
import Derived.Test.YtoiidngnlhhanaaDoorCost
import Derived.Test.YtoiidngnlhhanaaDoorF1
import Derived.Test.YtoiidngnlhhanaaDoorF2
/- Karp: what the cheapest walks tell of the rings -/
set_option linter.all false
set_option maxRecDepth 100000
namespace Go.Proofs.YtoiidngnlhhanaaDoor
open Go.RowKit Pl
/-! ### walks -/
def chain (l : List Cost) : Int → List Cost → Int → Prop
  | u, [], v => u = v
  | u, e :: es, v => e ∈ l ∧ e.1 = u ∧ chain l e.2.1 es v
def cst : List Cost → Int
  | [] => 0
  | e :: es => e.2.2 + cst es
theorem cst_app : ∀ a b, cst (a ++ b) = cst a + cst b
  | [], b => by simp [cst]
  | e :: a, b => by simp only [List.cons_append, cst, cst_app a b]; omega
theorem chain_app {l : List Cost} : ∀ (a : List Cost) {b : List Cost} {u v : Int}, chain l u (a ++ b) v ↔ ∃ m, chain l u a m ∧ chain l m b v
  | [], b, u, v => ⟨fun h => ⟨u, rfl, h⟩, fun ⟨m, h1, h2⟩ => by cases h1; exact h2⟩
  | e :: a, b, u, v => by
    simp only [List.cons_append, chain]
    constructor
    · rintro ⟨h1, h2, h3⟩
      obtain ⟨m, h4, h5⟩ := (chain_app a).1 h3
      exact ⟨m, ⟨h1, h2, h4⟩, h5⟩
    · rintro ⟨m, ⟨h1, h2, h4⟩, h5⟩
      exact ⟨h1, h2, (chain_app a).2 ⟨m, h4, h5⟩⟩
/-- the lines are well formed -/
def InC (k : Nat) (l : List Cost) : Prop := ∀ e ∈ l, (0 ≤ e.1 ∧ e.1 < (k : Int)) ∧ (0 ≤ e.2.1 ∧ e.2.1 < (k : Int)) ∧ (0 ≤ e.2.2 ∧ e.2.2 ≤ 20) ∧ e.1 ≠ e.2.1
theorem chain_end {k : Nat} {l : List Cost} (hin : InC k l) : ∀ (es : List Cost) {u v : Int}, chain l u es v → 0 ≤ u → u < (k : Int) → 0 ≤ v ∧ v < (k : Int)
  | [], u, v, h, h0, h1 => by cases h; exact ⟨h0, h1⟩
  | e :: es, u, v, h, h0, h1 => chain_end hin es h.2.2 (hin e h.1).2.1.1 (hin e h.1).2.1.2
theorem chain_cost {k : Nat} {l : List Cost} (hin : InC k l) : ∀ (es : List Cost) {u v : Int}, chain l u es v → 0 ≤ cst es ∧ cst es ≤ 20 * (es.length : Int)
  | [], u, v, h => by simp [cst]
  | e :: es, u, v, h => by
    have := chain_cost hin es h.2.2
    have := (hin e h.1).2.2.1
    simp only [cst, List.length_cons]; omega
theorem nodup_le : ∀ (n : Nat) (l : List Int), l.Nodup → (∀ x ∈ l, 0 ≤ x ∧ x < (n : Int)) → l.length ≤ n
  | 0, l, hn, h => by
    cases l with
    | nil => simp
    | cons x l => have := h x List.mem_cons_self; omega
  | n+1, l, hn, h => by
    have h1 := nodup_le n (l.filter fun x => x != (n : Int)) (hn.filter _) (fun x hx => by
      obtain ⟨q1, q2⟩ := List.mem_filter.1 hx
      have := h x q1
      simp at q2; omega)
    have h2 : ∀ (l : List Int), l.Nodup → l.length ≤ (l.filter fun x => x != (n : Int)).length + 1 := by
      intro l
      induction l with
      | nil => intro _; simp
      | cons x l ih =>
        intro hn
        rw [List.nodup_cons] at hn
        rw [List.filter_cons]
        by_cases e : x = (n : Int)
        · have e1 : (x != (n : Int)) = false := by simp [e]
          rw [if_neg (by rw [e1]; decide)]
          have e2 : l.filter (fun x => x != (n : Int)) = l := List.filter_eq_self.2 fun y hy => by
            have : y ≠ (n : Int) := fun e3 => hn.1 (by rw [e, ← e3]; exact hy)
            simpa using this
          rw [e2]; simp
        · have e1 : (x != (n : Int)) = true := by simpa using e
          rw [if_pos e1]
          have := ih hn.2
          simp; omega
    have := h2 l hn
    omega
/-- a walk that comes back to a point holds a ring -/
theorem dup_ring {l : List Cost} : ∀ (es : List Cost) {u v : Int}, chain l u es v → ¬ (u :: es.map (·.2.1)).Nodup → ∃ a c b m, es = a ++ c ++ b ∧ c ≠ [] ∧ chain l u a m ∧ chain l m c m ∧ chain l m b v
  | [], u, v, h, hn => by simp at hn
  | e :: es, u, v, h, hn => by
    by_cases hu : u ∈ (e :: es).map (·.2.1)
    · obtain ⟨e', he', rfl⟩ := List.mem_map.1 hu
      obtain ⟨c, b, hcb⟩ := List.append_of_mem he'
      have h' := h
      rw [hcb, show c ++ e' :: b = (c ++ [e']) ++ b by simp] at h'
      obtain ⟨m, h1, h2⟩ := (chain_app (c ++ [e'])).1 h'
      obtain ⟨m2, h3, h4⟩ := (chain_app c).1 h1
      obtain ⟨_, _, h6⟩ := h4
      cases h6
      exact ⟨[], c ++ [e'], b, _, by rw [hcb]; simp, by simp, rfl, h1, h2⟩
    · have hn2 : ¬ (e.2.1 :: es.map (·.2.1)).Nodup := fun h3 => hn (List.nodup_cons.2 ⟨hu, h3⟩)
      obtain ⟨a, c, b, m, h1, h2, h3, h4, h5⟩ := dup_ring es h.2.2 hn2
      exact ⟨e :: a, c, b, m, by rw [h1]; rfl, h2, ⟨h.1, h.2.1, h3⟩, h4, h5⟩
theorem long_ring {k : Nat} {l : List Cost} (hin : InC k l) {es : List Cost} {u v : Int} (h : chain l u es v) (h0 : 0 ≤ u) (h1 : u < (k : Int)) (hl : k ≤ es.length) :
    ∃ a c b m, es = a ++ c ++ b ∧ c ≠ [] ∧ chain l u a m ∧ chain l m c m ∧ chain l m b v := by
  refine dup_ring es h fun hn => ?_
  have hm : ∀ (es : List Cost) (u v : Int), chain l u es v → ∀ e ∈ es, e ∈ l := by
    intro es
    induction es with
    | nil => intro u v _ e he; cases he
    | cons e es ih =>
      intro u v h x hx
      rcases List.mem_cons.1 hx with rfl | hx
      · exact h.1
      · exact ih _ _ h.2.2 x hx
  have := nodup_le k _ hn (fun x hx => by
    rcases List.mem_cons.1 hx with rfl | hx
    · exact ⟨h0, h1⟩
    · obtain ⟨e, he, rfl⟩ := List.mem_map.1 hx
      exact (hin e (hm es u v h e he)).2.1)
  simp at this
  omega
/-- what a walk costs less so much for each line -/
def red (P Q : Int) (es : List Cost) : Int := Q * cst es - P * (es.length : Int)
theorem red_app (P Q : Int) (a b : List Cost) : red P Q (a ++ b) = red P Q a + red P Q b := by
  unfold red
  rw [cst_app, List.length_append, Int.natCast_add, Int.mul_add, Int.mul_add]; omega
/-- a ring of so many lines, and what it costs -/
def Rg (k : Nat) (l : List Cost) (q : Nat) (p : Int) : Prop := ∃ u es, 0 ≤ u ∧ u < (k : Int) ∧ chain l u es u ∧ es.length = q ∧ cst es = p
theorem exists_min (p : Nat → Prop) (h : ∃ n, p n) : ∃ n, p n ∧ ∀ m, p m → n ≤ m := by
  obtain ⟨n, hn⟩ := h
  induction n using Nat.strongRecOn with
  | ind n ih =>
    by_cases hm : ∃ m, m < n ∧ p m
    · obtain ⟨m, h1, h2⟩ := hm; exact ih m h1 h2
    · exact ⟨n, hn, fun m h2 => Nat.le_of_not_lt fun h1 => hm ⟨m, h1, h2⟩⟩
/-- of the rings one is the cheapest for each line -/
theorem best_ring {k : Nat} {l : List Cost} (hin : InC k l) (hk : k ≤ 8) {q0 : Nat} {p0 : Int} (h0 : Rg k l q0 p0) (hq0 : 1 ≤ q0) :
    ∃ Q P, 1 ≤ Q ∧ Q ≤ k ∧ Rg k l Q P ∧ ∀ u es, 0 ≤ u → u < (k : Int) → chain l u es u → 0 ≤ red P (Q : Int) es := by
  -- a short one
  have short : ∀ (n : Nat) (es : List Cost) (u : Int), es.length ≤ n → 0 ≤ u → u < (k : Int) → chain l u es u → es ≠ [] → ∃ q p, 1 ≤ q ∧ q ≤ k ∧ Rg k l q p := by
    intro n
    induction n with
    | zero => intro es u hl _ _ _ hne; cases es with
      | nil => exact absurd rfl hne
      | cons e es => simp at hl
    | succ n ih =>
      intro es u hl hu0 hu1 hc hne
      have hpos : 1 ≤ es.length := by cases es with
        | nil => exact absurd rfl hne
        | cons e es => simp
      by_cases hle : es.length ≤ k
      · exact ⟨es.length, cst es, hpos, hle, u, es, hu0, hu1, hc, rfl, rfl⟩
      · by_cases hlen : k + 1 ≤ es.length
        · -- the first k lines hold one
          have hsp : es = es.take k ++ es.drop k := (List.take_append_drop k es).symm
          rw [hsp] at hc
          obtain ⟨m, h1, h2⟩ := (chain_app _).1 hc
          have hlk : (es.take k).length = k := by rw [List.length_take]; omega
          obtain ⟨a, c, b, m2, e1, e2, e3, e4, e5⟩ := long_ring hin h1 hu0 hu1 (by omega)
          have hm2 := chain_end hin a e3 hu0 hu1
          have hcl : c.length ≤ k := by have := congrArg List.length e1; simp at this; omega
          have hc1 : 1 ≤ c.length := by cases c with
            | nil => exact absurd rfl e2
            | cons e es => simp
          exact ⟨c.length, cst c, hc1, hcl, m2, c, hm2.1, hm2.2, e4, rfl, rfl⟩
        · omega
  obtain ⟨u0, es0, a0, a1, a2, a3, a4⟩ := h0
  obtain ⟨q1, p1, b1, b2, b3⟩ := short es0.length es0 u0 (Nat.le_refl _) a0 a1 a2 (by intro e; subst e; simp at a3; omega)
  -- the least by 840 parts
  obtain ⟨N, ⟨Q, P, c1, c2, c3, c4⟩, hmin⟩ := exists_min (fun N => ∃ Q P, 1 ≤ Q ∧ Q ≤ k ∧ Rg k l Q P ∧ (N : Int) = P * ((840 / Q : Nat) : Int)) (by
    obtain ⟨u, es, d1, d2, d3, d4, d5⟩ := b3
    have := chain_cost hin es d3
    refine ⟨(p1 * ((840 / q1 : Nat) : Int)).toNat, q1, p1, b1, b2, ⟨u, es, d1, d2, d3, d4, d5⟩, ?_⟩
    have h0 : 0 ≤ p1 * ((840 / q1 : Nat) : Int) := Int.mul_nonneg (by omega) (Int.natCast_nonneg _)
    omega)
  have cmp : ∀ q p, 1 ≤ q → q ≤ k → Rg k l q p → 0 ≤ (Q : Int) * p - P * (q : Int) := by
    intro q p h1 h2 h3
    obtain ⟨u, es, d1, d2, d3, d4, d5⟩ := h3
    have hp := chain_cost hin es d3
    have h0 : 0 ≤ p * ((840 / q : Nat) : Int) := Int.mul_nonneg (by omega) (Int.natCast_nonneg _)
    have hle := hmin (p * ((840 / q : Nat) : Int)).toNat ⟨q, p, h1, h2, ⟨u, es, d1, d2, d3, d4, d5⟩, by omega⟩
    have key : P * ((840 / Q : Nat) : Int) ≤ p * ((840 / q : Nat) : Int) := by omega
    have dq : (840 / q) * q = 840 := by
      have : ∀ q : Nat, q < 9 → 1 ≤ q → (840 / q) * q = 840 := by decide
      exact this q (by omega) h1
    have dQ : (840 / Q) * Q = 840 := by
      have : ∀ q : Nat, q < 9 → 1 ≤ q → (840 / q) * q = 840 := by decide
      exact this Q (by omega) c1
    have m1 := Int.mul_le_mul_of_nonneg_right key (show (0 : Int) ≤ ((q * Q : Nat) : Int) from Int.natCast_nonneg _)
    generalize 840 / Q = x at *
    generalize 840 / q = y at *
    have hx : (x : Int) * (Q : Int) = 840 := by rw [← Int.natCast_mul, dQ]; rfl
    have hy : (y : Int) * (q : Int) = 840 := by rw [← Int.natCast_mul, dq]; rfl
    have e1 : P * (x : Int) * ((q * Q : Nat) : Int) = 840 * (P * (q : Int)) := by
      rw [Int.natCast_mul, ← hx]; simp only [Int.mul_assoc, Int.mul_comm, Int.mul_left_comm]
    have e2 : p * (y : Int) * ((q * Q : Nat) : Int) = 840 * ((Q : Int) * p) := by
      rw [Int.natCast_mul, ← hy]; simp only [Int.mul_assoc, Int.mul_comm, Int.mul_left_comm]
    rw [e1, e2] at m1
    omega
  refine ⟨Q, P, c1, c2, c3, ?_⟩
  have all : ∀ (n : Nat) (es : List Cost) (u : Int), es.length ≤ n → 0 ≤ u → u < (k : Int) → chain l u es u → 0 ≤ red P (Q : Int) es := by
    intro n
    induction n with
    | zero =>
      intro es u hl _ _ _
      have : es = [] := List.eq_nil_of_length_eq_zero (by omega)
      subst this; simp [red, cst]
    | succ n ih =>
      intro es u hl hu0 hu1 hc
      by_cases hz : es = []
      · subst hz; simp [red, cst]
      have hpos : 1 ≤ es.length := by cases es with
        | nil => exact absurd rfl hz
        | cons e es => simp
      by_cases hle : es.length ≤ k
      · exact cmp es.length (cst es) hpos hle ⟨u, es, hu0, hu1, hc, rfl, rfl⟩
      · have hsp : es = es.take k ++ es.drop k := (List.take_append_drop k es).symm
        have hc' := hc
        rw [hsp] at hc'
        obtain ⟨m, h1, h2⟩ := (chain_app _).1 hc'
        have hlk : (es.take k).length = k := by rw [List.length_take]; omega
        obtain ⟨a, c, b, m2, e1, e2, e3, e4, e5⟩ := long_ring hin h1 hu0 hu1 (by omega)
        have hm2 := chain_end hin a e3 hu0 hu1
        have hc1 : 1 ≤ c.length := by cases c with
          | nil => exact absurd rfl e2
          | cons e es => simp
        have hlen : es.length = a.length + c.length + b.length + (es.drop k).length := by
          have q1 := congrArg List.length e1
          rw [hlk] at q1
          rw [List.length_drop]
          simp at q1
          omega
        have hcl : c.length ≤ k := by have := congrArg List.length e1; simp at this; omega
        have r1 := ih c m2 (by omega) hm2.1 hm2.2 e4
        have r2 := ih (a ++ b ++ es.drop k) u (by simp at hlen ⊢; omega) hu0 hu1 ((chain_app _).2 ⟨m, (chain_app a).2 ⟨m2, e3, e5⟩, h2⟩)
        have e6 : red P (Q : Int) es = red P (Q : Int) (a ++ c ++ b) + red P (Q : Int) (es.drop k) := by rw [← red_app, ← e1, List.take_append_drop]
        rw [e6, red_app, red_app]
        rw [red_app, red_app] at r2
        omega
  exact fun u es h1 h2 h3 => all es.length es u (Nat.le_refl _) h1 h2 h3
/-! ### the table of the cheapest walks -/
/-- the cheapest of so many lines to a point -/
def Best (k : Nat) (l : List Cost) (m : Nat) (v : Int) (x : Int) : Prop :=
  (∃ u es, 0 ≤ u ∧ u < (k : Int) ∧ chain l u es v ∧ es.length = m ∧ cst es = x) ∧ ∀ u es, 0 ≤ u → u < (k : Int) → chain l u es v → es.length = m → x ≤ cst es
def RowOk (k : Nat) (l : List Cost) (m : Nat) (row : List Int) : Prop :=
  row.length = k ∧ ∀ v : Nat, v < k → (row.getD v 0 = (1073741824 : Int) ∧ ∀ u es, 0 ≤ u → u < (k : Int) → chain l u es (v : Int) → es.length = m → False) ∨
    (0 ≤ row.getD v 0 ∧ row.getD v 0 ≤ 20 * (m : Int) ∧ Best k l m (v : Int) (row.getD v 0))
theorem row0 {k : Nat} {l : List Cost} : RowOk k l 0 (List.replicate k 0) := by
  refine ⟨by simp, fun v hv => .inr ?_⟩
  have e : (List.replicate k (0 : Int)).getD v 0 = 0 := by simp [List.getD_eq_getElem?_getD, List.getElem?_replicate, hv]
  rw [e]
  refine ⟨by omega, by omega, ⟨(v : Int), [], by omega, by omega, rfl, rfl, rfl⟩, fun u es _ _ _ h => ?_⟩
  have : es = [] := List.eq_nil_of_length_eq_zero h
  subst this; simp [cst]
theorem far0 : ∀ k : Nat, k ≤ 8 → mean_walks_L2 300 (k : Int) 300 0 (List.replicate k 0) = some (List.replicate k (1073741824 : Int)) := by decide +kernel
/-- the lines up to a place are looked at -/
def Rel (k : Nat) (l : List Cost) (t : Nat) (prev x : List Int) : Prop :=
  x.length = k ∧ ∀ v : Nat, v < k → (x.getD v 0 = (1073741824 : Int) ∧ ∀ e ∈ l.take t, e.2.1 = (v : Int) → prev.getD e.1.toNat 0 = (1073741824 : Int)) ∨
    (x.getD v 0 < (1073741824 : Int) ∧ (∃ e ∈ l.take t, e.2.1 = (v : Int) ∧ prev.getD e.1.toNat 0 < (1073741824 : Int) ∧ x.getD v 0 = prev.getD e.1.toNat 0 + e.2.2) ∧ ∀ e ∈ l.take t, e.2.1 = (v : Int) → prev.getD e.1.toNat 0 < (1073741824 : Int) → x.getD v 0 ≤ prev.getD e.1.toNat 0 + e.2.2)
theorem relax {k : Nat} {l : List Cost} (hin : InC k l) (hl : l.length ≤ 24) {v3 : List (List Int)} {jm : Nat} {prev : List Int} (hp : ix v3 (jm : Int) = some prev) (hpl : prev.length = k)
    (hpb : ∀ v : Nat, v < k → prev.getD v 0 = (1073741824 : Int) ∨ (0 ≤ prev.getD v 0 ∧ prev.getD v 0 ≤ 1000)) : ∀ g t x, l.length < g + t → t ≤ l.length → Rel k l t prev x →
    ∃ x', mean_walks_L3 300 l v3 (jm : Int) g (t : Int) x = some x' ∧ Rel k l l.length prev x'
  | 0, t, x, h, _, _ => by omega
  | g+1, t, x, h, ht, hR => by
    rw [mean_walks_L3_s]
    by_cases hlt : t < l.length
    · obtain ⟨⟨a1, a2⟩, ⟨b1, b2⟩, ⟨c1, c2⟩, _⟩ := hin _ (List.getElem_mem hlt)
      generalize he : l[t] = e at *
      obtain ⟨A, hA⟩ := Int.eq_ofNat_of_zero_le a1
      obtain ⟨B, hB⟩ := Int.eq_ofNat_of_zero_le b1
      have hAk : A < k := by omega
      have hBk : B < k := by omega
      have hAp : A < prev.length := by omega
      have hBx : B < x.length := by rw [hR.1]; exact hBk
      have hpA := hpb A hAk
      have htk : ∀ e', e' ∈ l.take (t+1) ↔ e' ∈ l.take t ∨ e' = e := fun e' => by
        rw [List.take_succ_eq_append_getElem hlt, List.mem_append, List.mem_singleton, he]
      have eA : e.1.toNat = A := by omega
      rw [if_pos (by omega), ix_nat hlt, he, Option.bind_some, hp, Option.bind_some, hA, ix_at 0 hAp, Option.bind_some, w64n (by omega), hB]
      by_cases hf : prev.getD A 0 < 1073741824
      · have hw : wrap64 (prev.getD A 0 + e.2.2) = prev.getD A 0 + e.2.2 := w64 (by omega) (by omega)
        rw [if_pos hf, ix_at 0 hBx, Option.bind_some, hw, st_nat hBx, Option.bind_some]
        refine relax hin hl hp hpl hpb g (t+1) _ (by omega) (by omega) ⟨by rw [List.length_set]; exact hR.1, fun v hv => ?_⟩
        rw [getD_set _ _ _ _ _ hBx]
        by_cases hvB : v = B
        · subst hvB
          rw [if_pos rfl]
          unfold gmin
          rcases hR.2 v hv with ⟨h1, h2⟩ | ⟨h1, ⟨e0, q1, q2, q3, q4⟩, h3⟩
          · rw [h1, if_pos (by omega)]
            refine .inr ⟨by omega, ⟨e, (htk e).2 (.inr rfl), hB, by rw [eA]; exact hf, by rw [eA]⟩, fun e' he' hv' hf' => ?_⟩
            rcases (htk e').1 he' with h | rfl
            · rw [h2 e' h hv'] at hf'; omega
            · rw [eA]; exact Int.le_refl _
          · by_cases hless : prev.getD A 0 + e.2.2 < x.getD v 0
            · rw [if_pos hless]
              refine .inr ⟨by omega, ⟨e, (htk e).2 (.inr rfl), hB, by rw [eA]; exact hf, by rw [eA]⟩, fun e' he' hv' hf' => ?_⟩
              rcases (htk e').1 he' with h | rfl
              · have := h3 e' h hv' hf'; omega
              · rw [eA]; exact Int.le_refl _
            · rw [if_neg hless]
              refine .inr ⟨h1, ⟨e0, (htk e0).2 (.inl q1), q2, q3, q4⟩, fun e' he' hv' hf' => ?_⟩
              rcases (htk e').1 he' with h | rfl
              · exact h3 e' h hv' hf'
              · rw [eA]; omega
        · rw [if_neg hvB]
          rcases hR.2 v hv with ⟨h1, h2⟩ | ⟨h1, ⟨e0, q1, q2, q3, q4⟩, h3⟩
          · refine .inl ⟨h1, fun e' he' hv' => ?_⟩
            rcases (htk e').1 he' with h | rfl
            · exact h2 e' h hv'
            · omega
          · refine .inr ⟨h1, ⟨e0, (htk e0).2 (.inl q1), q2, q3, q4⟩, fun e' he' hv' hf' => ?_⟩
            rcases (htk e').1 he' with h | rfl
            · exact h3 e' h hv' hf'
            · omega
      · rw [if_neg hf]
        refine relax hin hl hp hpl hpb g (t+1) x (by omega) (by omega) ⟨hR.1, fun v hv => ?_⟩
        have hfA : prev.getD A 0 = (1073741824 : Int) := hpA.resolve_right (by omega)
        rcases hR.2 v hv with ⟨h1, h2⟩ | ⟨h1, ⟨e0, q1, q2, q3, q4⟩, h3⟩
        · refine .inl ⟨h1, fun e' he' hv' => ?_⟩
          rcases (htk e').1 he' with h | rfl
          · exact h2 e' h hv'
          · rw [eA]; exact hfA
        · refine .inr ⟨h1, ⟨e0, (htk e0).2 (.inl q1), q2, q3, q4⟩, fun e' he' hv' hf' => ?_⟩
          rcases (htk e').1 he' with h | rfl
          · exact h3 e' h hv' hf'
          · rw [eA, hfA] at hf'; omega
    · obtain rfl : t = l.length := by omega
      rw [if_neg (by omega)]
      exact ⟨x, rfl, hR⟩
theorem rowSucc {k m : Nat} {l : List Cost} (hin : InC k l) (hm : m ≤ 40) {prev x : List Int} (hP : RowOk k l m prev) (hR : Rel k l l.length prev x) : RowOk k l (m+1) x := by
  refine ⟨hR.1, fun v hv => ?_⟩
  have split : ∀ u es, 0 ≤ u → u < (k : Int) → chain l u es (v : Int) → es.length = m + 1 → ∃ es' e, es = es' ++ [e] ∧ es'.length = m ∧ chain l u es' e.1 ∧ e ∈ l ∧ e.2.1 = (v : Int) := by
    intro u es h0 h1 hc hl
    have hne : es ≠ [] := by intro h; subst h; simp at hl
    have hsp := List.dropLast_concat_getLast hne
    rw [← hsp] at hc
    obtain ⟨mid, q1, q2, q3, q4⟩ := (chain_app _).1 hc
    exact ⟨es.dropLast, es.getLast hne, hsp.symm, by simp; omega, by rw [q3]; exact q1, q2, q4⟩
  have low : ∀ (e : Cost), e ∈ l → e.1 = ((e.1.toNat : Nat) : Int) ∧ e.1.toNat < k := fun e he => by have := (hin e he).1; omega
  rcases hR.2 v hv with ⟨h1, h2⟩ | ⟨h1, ⟨e0, q1, q2, q3, q4⟩, h3⟩
  · refine .inl ⟨h1, fun u es hu0 hu1 hc hl => ?_⟩
    obtain ⟨es', e, rfl, r1, r2, r3, r4⟩ := split u es hu0 hu1 hc hl
    rw [List.take_length] at h2
    have hfar := h2 e r3 r4
    obtain ⟨w1, w2⟩ := low e r3
    rcases hP.2 e.1.toNat w2 with ⟨_, k2⟩ | ⟨_, k2, _⟩
    · exact k2 u es' hu0 hu1 (by rw [← w1]; exact r2) r1
    · rw [hfar] at k2; omega
  · right
    rw [List.take_length] at q1 h3
    obtain ⟨w1, w2⟩ := low e0 q1
    obtain ⟨_, _, ⟨g1, g2⟩, _⟩ := hin e0 q1
    rcases hP.2 e0.1.toNat w2 with ⟨k1, _⟩ | ⟨k1, k2, ⟨u, es, y1, y2, y3, y4, y5⟩, k4⟩
    · rw [k1] at q3; omega
    · refine ⟨by omega, by rw [q4]; push_cast; omega, ⟨u, es ++ [e0], y1, y2, (chain_app es).2 ⟨e0.1, by rw [w1]; exact y3, q1, rfl, q2⟩, by simp [y4], ?_⟩, fun u' es2 hu0 hu1 hc hl => ?_⟩
      · rw [cst_app, y5, q4]; simp [cst]
      · obtain ⟨es', e, rfl, r1, r2, r3, r4⟩ := split u' es2 hu0 hu1 hc hl
        obtain ⟨z1, z2⟩ := low e r3
        rcases hP.2 e.1.toNat z2 with ⟨_, k5⟩ | ⟨k5, k6, _, k7⟩
        · exact (k5 u' es' hu0 hu1 (by rw [← z1]; exact r2) r1).elim
        · have k8 := k7 u' es' hu0 hu1 (by rw [← z1]; exact r2) r1
          have k9 := h3 e r3 r4 (by omega)
          rw [cst_app]
          simp only [cst]
          omega
theorem table_L1 {k : Nat} {l : List Cost} (hin : InC k l) (hk : k ≤ 8) (hl : l.length ≤ 24) : ∀ g j v3, k < g + j → j ≤ k → v3.length = j + 1 → (∀ m : Nat, m ≤ j → RowOk k l m (v3.getD m [])) →
    ∃ w, mean_walks_L1 300 (k : Int) l g (j : Int) v3 = some w ∧ w.length = k + 1 ∧ ∀ m : Nat, m ≤ k → RowOk k l m (w.getD m [])
  | 0, j, v3, h, _, _, _ => by omega
  | g+1, j, v3, h, hj, hv, hR => by
    rw [mean_walks_L1_s]
    by_cases hlt : j < k
    · have hmk : mkI (k : Int) = some (List.replicate k 0) := by unfold mkI; rw [if_pos (by omega), Int.toNat_natCast]
      rw [if_pos (by omega), hmk, Option.bind_some, List.length_replicate, far0 k hk, Option.bind_some, w64n (by omega)]
      have hpj := hR j (Nat.le_refl _)
      have hix : ix v3 (j : Int) = some (v3.getD j []) := ix_at [] (by omega)
      obtain ⟨x, e1, e2⟩ := relax hin hl hix hpj.1 (fun v hv => by
        rcases hpj.2 v hv with ⟨h1, _⟩ | ⟨h1, h2, _⟩
        · exact .inl h1
        · exact .inr ⟨h1, by omega⟩) 300 0 (List.replicate k (1073741824 : Int)) (by omega) (by omega) ⟨by simp, fun v hv => .inl ⟨by simp [List.getD_eq_getElem?_getD, List.getElem?_replicate, hv], fun e he => by simp at he⟩⟩
      have e1' : mean_walks_L3 300 l v3 (j : Int) 300 0 (List.replicate k (1073741824 : Int)) = _ := e1
      rw [e1', Option.bind_some]
      have happ : app v3 x = some (v3 ++ [x]) := by unfold app; rw [if_pos (by omega)]
      rw [happ, Option.bind_some]
      refine table_L1 hin hk hl g (j+1) (v3 ++ [x]) (by omega) (by omega) (by simp [hv]) (fun m hm => ?_)
      by_cases e : m = j + 1
      · subst e
        have : (v3 ++ [x]).getD (j+1) [] = x := by rw [← hv]; simp [List.getD_eq_getElem?_getD]
        rw [this]
        exact rowSucc hin (by omega) hpj e2
      · have : (v3 ++ [x]).getD m [] = v3.getD m [] := by
          simp only [List.getD_eq_getElem?_getD]
          rw [List.getElem?_append_left (by omega)]
        rw [this]; exact hR m (by omega)
    · obtain rfl : j = k := by omega
      rw [if_neg (by omega)]
      exact ⟨v3, rfl, hv, hR⟩
theorem table {k : Nat} {l : List Cost} (hin : InC k l) (hk : k ≤ 8) (hl : l.length ≤ 24) : ∃ w, mean_walks 300 (k : Int) l = some w ∧ w.length = k + 1 ∧ ∀ m : Nat, m ≤ k → RowOk k l m (w.getD m []) := by
  unfold mean_walks
  have hmk : mkI (k : Int) = some (List.replicate k 0) := by unfold mkI; rw [if_pos (by omega), Int.toNat_natCast]
  obtain ⟨w, e1, e2, e3⟩ := table_L1 hin hk hl 300 0 [List.replicate k 0] (by omega) (by omega) rfl (fun m hm => by
    have : m = 0 := by omega
    subst this; exact row0)
  have e1' : mean_walks_L1 300 (k : Int) l 300 0 [List.replicate k 0] = _ := e1
  rw [hmk, Option.bind_some, e1', Option.bind_some]
  exact ⟨w, rfl, e2, e3⟩
end Go.Proofs.YtoiidngnlhhanaaDoor
