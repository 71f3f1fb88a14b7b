import Derived.Test.YtecllcpjjllogaaDoorTree
import Derived.Test.YtecllcpjjllogaaDoorTCk
/- plain: what tree.Check says; the trees that it lets through -/
set_option linter.all false
set_option maxRecDepth 100000
namespace Go.Proofs.YtecllcpjjllogaaDoor
open Go.RowKit Pl
theorem nodup_lt : ∀ (n : Nat) (l : List Nat), l.Nodup → (∀ x ∈ l, x < n) → l.length ≤ n
  | 0, l, hn, h => by
    cases l with
    | nil => simp
    | cons x l => have := h x List.mem_cons_self; omega
  | n+1, l, hn, h => by
    have h1 := nodup_lt n (l.filter fun x => x != n) (hn.filter _) (fun x hx => by
      obtain ⟨q1, q2⟩ := List.mem_filter.1 hx
      have := h x q1
      simp at q2; omega)
    have h2 : ∀ (l : List Nat), l.Nodup → l.length ≤ (l.filter fun x => x != n).length + 1 := by
      intro l
      induction l with
      | nil => intro _; simp
      | cons x l ih =>
        intro hn
        obtain ⟨n1, n2⟩ := List.nodup_cons.1 hn
        rw [List.filter_cons]
        by_cases e : x = n
        · subst e
          have : l.filter (fun y => y != x) = l := by
            rw [List.filter_eq_self]; intro y hy
            simp; rintro rfl; exact n1 hy
          simp [this]
        · have := ih n2
          simp [e]; omega
    have := h2 l hn
    omega
theorem once_len (a : Nat) : ∀ l : List Nat, l.Nodup → a ∈ l → (l.filter (fun v => v == a)).length = 1
  | [], _, h => by cases h
  | x :: l, hn, h => by
    obtain ⟨n1, n2⟩ := List.nodup_cons.1 hn
    by_cases e : x = a
    · subst e
      have : l.filter (fun v => v == x) = [] := by
        rw [List.filter_eq_nil_iff]; intro y hy hb
        simp at hb; subst hb; exact n1 hy
      rw [List.filter_cons, if_pos (by simp), this]; rfl
    · rw [List.filter_cons, if_neg (by simpa using e)]
      exact once_len a l n2 ((List.mem_cons.1 h).resolve_left (Ne.symm e))
/-- all hang together -/
def Conn (k : Nat) (l : List (Int × Int)) : Prop := ∀ P : Nat → Prop, P 0 → (∀ i j, P i → Ad k l i j → P j) → ∀ i, i < k → P i
open Classical in
noncomputable def errT (n : Int) (l : List (Int × Int)) : Int := if errG n l ≠ 0 then errG n l else if l.length + 1 = n.toNat ∧ Conn n.toNat l then 0 else 7
theorem sBelow_ev {k : Nat} (h : k ≤ 16) : sBelow (k : Int) = some (2 ^ k - 1) := by unfold sBelow; rw [if_pos (by omega), Int.toNat_natCast]
theorem full_bit (k j : Nat) : (2 ^ k - 1 : Nat).testBit j = decide (j < k) := Nat.testBit_two_pow_sub_one k j
theorem full_lt (k : Nat) : 2 ^ k - 1 < 2 ^ k := by have := Nat.two_pow_pos k; omega
theorem besM_lt {k : Nat} {l : List (Int × Int)} (hin : InL k l) (i : Nat) : (besM k l).getD i 0 < 2 ^ k := by
  have hrow := besM_row hin
  rcases Nat.lt_or_ge i k with h | h
  · exact (hrow.getD h).1
  · rw [List.getD_eq_getElem?_getD, List.getElem?_eq_none (by rw [hrow.1]; exact h)]; exact Nat.two_pow_pos k

/-- how far -/
def dst (k : Nat) (l : List (Int × Int)) (a v : Nat) : Nat := ((((walk_From 300 (k : Int) l (a : Int)).getD ([], 1)).1).getD v 0).toNat
/-- a tree that is let through -/
structure Good (k : Nat) (l : List (Int × Int)) : Prop where
  good : good (k : Int) l
  err : errG (k : Int) l = 0
  pos : 1 ≤ k
  le : k ≤ 8
  inl : InL k l
  ne : ∀ p ∈ l, p.1 ≠ p.2
  len : l.length + 1 = k
  conn : Conn k l
theorem good_of {n : Int} {l : List (Int × Int)} (hg : good n l) (h : errT n l = 0) : ∃ k : Nat, n = k ∧ Good k l := by
  unfold errT at h
  by_cases he : errG n l = 0
  · rw [if_neg (by simpa using he)] at h
    obtain ⟨k, rfl, h1, h8, h24, hin, hne⟩ := errG_zero he
    rw [Int.toNat_natCast] at h
    by_cases hc : l.length + 1 = k ∧ Conn k l
    · exact ⟨k, rfl, hg, he, h1, h8, hin, hne, hc.1, hc.2⟩
    · rw [if_neg hc] at h; cases h
  · rw [if_pos he] at h; exact absurd h he
theorem far_all {k a : Nat} {l : List (Int × Int)} (G : Good k l) (ha : a < k) : ∃ o, walk_From 300 (k : Int) l (a : Int) = some (o, 0) ∧ o.length = k ∧ (∀ j, j < k → o.getD j 0 = (dst k l a j : Int)) ∧ Far k (Ad k l) a o := by
  obtain ⟨o, h1, h2⟩ := from_ev G.good G.err ha
  have hall : ∀ j, j < k → 0 ≤ o.getD j 0 := by
    by_cases h0 : 0 ≤ o.getD 0 0
    · exact G.conn (fun i => 0 ≤ o.getD i 0) h0 (fun i j hi hij => (h2.step i j (ad_lt G.inl hij).1 hi hij).1)
    · have := G.conn (fun i => ¬ 0 ≤ o.getD i 0) h0 (fun i j hi hij hj => hi (h2.step j i (ad_lt G.inl hij).2 hj (ad_sym G.inl hij)).1) a ha
      exact absurd (by rw [h2.start]; omega) this
  refine ⟨o, h1, h2.len, fun j hj => ?_, h2⟩
  unfold dst
  rw [h1]
  show o.getD j 0 = (((o.getD j 0).toNat : Nat) : Int)
  have := hall j hj
  omega
theorem tr_of {k : Nat} {l : List (Int × Int)} (G : Good k l) : Tr k (Ad k l) (dst k l) := by
  have hz : ∀ a, a < k → dst k l a a = 0 := fun a ha => by
    obtain ⟨o, _, _, h3, h4⟩ := far_all G ha
    have := h3 a ha; have := h4.start; omega
  have hs : ∀ a u v, a < k → Ad k l u v → dst k l a v ≤ dst k l a u + 1 := fun a u v ha huv => by
    obtain ⟨o, _, _, h3, h4⟩ := far_all G ha
    obtain ⟨hu, hv⟩ := ad_lt G.inl huv
    have := h3 u hu; have := h3 v hv; have := (h4.step u v hu (by omega) huv).2; omega
  have hd : ∀ a v, a < k → v < k → v ≠ a → ∃ u, Ad k l u v ∧ dst k l a v = dst k l a u + 1 := fun a v ha hv hne => by
    obtain ⟨o, _, _, h3, h4⟩ := far_all G ha
    rcases h4.down v hv (by rw [h3 v hv]; omega) with e | ⟨i, q1, q2, q3, q4⟩
    · exact absurd e hne
    · exact ⟨i, q2, by have := h3 v hv; have := h3 i q1; omega⟩
  -- the line over which a point is reached
  have hline : ∀ a, a < k → ∃ f : Nat → Nat, ∀ v, v < k → v ≠ a → f v < l.length ∧ ∃ u : Nat, ((l.getD (f v) (0, 0)).1 = (u : Int) ∧ (l.getD (f v) (0, 0)).2 = (v : Int) ∨ (l.getD (f v) (0, 0)).1 = (v : Int) ∧ (l.getD (f v) (0, 0)).2 = (u : Int)) ∧ dst k l a v = dst k l a u + 1 := by
    intro a ha
    have : ∀ v, ∃ q, v < k → v ≠ a → q < l.length ∧ ∃ u : Nat, ((l.getD q (0, 0)).1 = (u : Int) ∧ (l.getD q (0, 0)).2 = (v : Int) ∨ (l.getD q (0, 0)).1 = (v : Int) ∧ (l.getD q (0, 0)).2 = (u : Int)) ∧ dst k l a v = dst k l a u + 1 := by
      intro v
      by_cases c : v < k ∧ v ≠ a
      · obtain ⟨u, h1, h2⟩ := hd a v ha c.1 c.2
        obtain ⟨p, hp, hh⟩ := (ad_iff G.inl u v).1 h1
        obtain ⟨q, hq, rfl⟩ := List.getElem_of_mem hp
        exact ⟨q, fun _ _ => ⟨hq, u, by rw [List.getD_eq_getElem?_getD, List.getElem?_eq_getElem hq]; exact hh, h2⟩⟩
      · exact ⟨0, fun h1 h2 => absurd ⟨h1, h2⟩ c⟩
    exact ⟨fun v => Classical.choose (this v), fun v => Classical.choose_spec (this v)⟩
  have honto : ∀ a u v, a < k → ∀ f : Nat → Nat, (∀ v, v < k → v ≠ a → f v < l.length ∧ ∃ u : Nat, ((l.getD (f v) (0, 0)).1 = (u : Int) ∧ (l.getD (f v) (0, 0)).2 = (v : Int) ∨ (l.getD (f v) (0, 0)).1 = (v : Int) ∧ (l.getD (f v) (0, 0)).2 = (u : Int)) ∧ dst k l a v = dst k l a u + 1) → Ad k l u v →
      ∃ w u' : Nat, dst k l a w = dst k l a u' + 1 ∧ ((u' = u ∧ w = v) ∨ (u' = v ∧ w = u)) ∧ ((l.getD (f w) (0, 0)).1 = (u' : Int) ∧ (l.getD (f w) (0, 0)).2 = (w : Int) ∨ (l.getD (f w) (0, 0)).1 = (w : Int) ∧ (l.getD (f w) (0, 0)).2 = (u' : Int)) := by
    intro a u v ha f hf huv
    obtain ⟨p, hp, hh⟩ := (ad_iff G.inl u v).1 huv
    obtain ⟨q, hq, rfl⟩ := List.getElem_of_mem hp
    obtain ⟨vs, hvs⟩ : ∃ vs, vs = (List.range k).filter (fun v => v != a) := ⟨_, rfl⟩
    have hmem : ∀ v, v ∈ vs ↔ v < k ∧ v ≠ a := fun v => by rw [hvs, List.mem_filter, List.mem_range]; simp
    have hvlen : vs.length + 1 = k := by
      have h3 := cnt3 (fun _ => true) (fun v => v != a) (fun v => v == a) (List.range k) (fun x _ => by cases e : x == a <;> simp [bne, e])
      rw [List.filter_eq_self.2 (fun _ _ => rfl), List.length_range, ← hvs] at h3
      have h4 : ((List.range k).filter (fun v => v == a)).length = 1 := by
        exact once_len a _ List.nodup_range (List.mem_range.2 ha)
      omega
    have hnd : (vs.map f).Nodup := by
      have h0 : vs.Nodup := by rw [hvs]; exact List.Pairwise.filter _ List.nodup_range
      refine List.pairwise_map.2 (List.Pairwise.imp_of_mem ?_ h0)
      intro x y hx hy hxy e
      obtain ⟨_, u1, j1, d1⟩ := hf x ((hmem x).1 hx).1 ((hmem x).1 hx).2
      obtain ⟨_, u2, j2, d2⟩ := hf y ((hmem y).1 hy).1 ((hmem y).1 hy).2
      rw [e] at j1
      have : x = y ∨ (u1 = y ∧ u2 = x) := by omega
      rcases this with h | ⟨rfl, rfl⟩
      · exact hxy h
      · omega
    have hq' : q ∈ vs.map f := by
      by_cases c : q ∈ vs.map f
      · exact c
      · have := nodup_lt l.length (q :: vs.map f) (List.nodup_cons.2 ⟨c, hnd⟩) (fun x hx => by
          rcases List.mem_cons.1 hx with rfl | hx
          · exact hq
          · obtain ⟨v, hv, rfl⟩ := List.mem_map.1 hx
            exact (hf v ((hmem v).1 hv).1 ((hmem v).1 hv).2).1)
        rw [List.length_cons, List.length_map] at this
        have := G.len
        omega
    obtain ⟨w, hw, hfw⟩ := List.mem_map.1 hq'
    obtain ⟨_, u', j, dd⟩ := hf w ((hmem w).1 hw).1 ((hmem w).1 hw).2
    have j' := j
    rw [hfw, List.getD_eq_getElem?_getD, List.getElem?_eq_getElem hq] at j
    simp only [Option.getD_some] at j
    exact ⟨w, u', dd, by omega, j'⟩
  have hdiff : ∀ a u v, a < k → Ad k l u v → dst k l a u ≠ dst k l a v := fun a u v ha huv => by
    obtain ⟨f, hf⟩ := hline a ha
    obtain ⟨w, u', h3, h4, _⟩ := honto a u v ha f hf huv
    rcases h4 with ⟨rfl, rfl⟩ | ⟨rfl, rfl⟩ <;> omega
  refine ⟨fun u v h => ad_sym G.inl h, fun u v h => ad_lt G.inl h, hz, hs, hd, fun a u u' v ha h1 h2 d1 d2 => ?_, hdiff⟩
  -- one line alone leads nearer
  obtain ⟨f, hf⟩ := hline a ha
  obtain ⟨w, x, q1, q2, q3⟩ := honto a u v ha f hf h1
  obtain ⟨w', x', q1', q2', q3'⟩ := honto a u' v ha f hf h2
  have e1 : w = v ∧ x = u := by
    rcases q2 with ⟨e1, e2⟩ | ⟨e1, e2⟩
    · exact ⟨e2, e1⟩
    · subst e1; subst e2; omega
  have e2 : w' = v ∧ x' = u' := by
    rcases q2' with ⟨e1, e2⟩ | ⟨e1, e2⟩
    · exact ⟨e2, e1⟩
    · subst e1; subst e2; omega
  obtain ⟨rfl, rfl⟩ := e1
  obtain ⟨rfl, rfl⟩ := e2
  omega
end Go.Proofs.YtecllcpjjllogaaDoor
