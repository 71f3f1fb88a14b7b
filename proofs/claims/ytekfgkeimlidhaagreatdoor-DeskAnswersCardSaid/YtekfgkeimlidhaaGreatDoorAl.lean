import Derived.Test.YtekfgkeimlidhaaGreatDoorEv2
/- plain: the lines of a graph, sets of points, rows of points -/
set_option linter.all false
set_option maxRecDepth 100000
namespace Go.Proofs.YtekfgkeimlidhaaGreatDoor
open Go.RowKit Go.Shelf Pl
def adj (bes : List Nat) (i j : Nat) : Bool := (bes.getD i 0).testBit j
theorem adj_besL {n : Nat} {l : List (Int × Int)} (h : InL n l) (i j : Nat) : adj (besM n l) i j = besL l i j := by
  unfold adj besL goes
  rw [besM_bit h, ]
  have e : ∀ p ∈ l, (decide (p.1.toNat = i) && decide (p.2.toNat = j)) = (p.1 == (i : Int) && p.2 == (j : Int)) ∧ (decide (p.2.toNat = i) && decide (p.1.toNat = j)) = (p.1 == (j : Int) && p.2 == (i : Int)) := by
    intro p hp
    have := h p hp
    constructor <;> rw [Bool.eq_iff_iff] <;> simp <;> omega
  congr 1
  · rw [Bool.eq_iff_iff, List.any_eq_true, List.any_eq_true]
    exact ⟨fun ⟨p, hp, h1⟩ => ⟨p, hp, by rw [← (e p hp).1]; exact h1⟩, fun ⟨p, hp, h1⟩ => ⟨p, hp, by rw [(e p hp).1]; exact h1⟩⟩
  · rw [Bool.eq_iff_iff, List.any_eq_true, List.any_eq_true]
    exact ⟨fun ⟨p, hp, h1⟩ => ⟨p, hp, by rw [← (e p hp).2]; exact h1⟩, fun ⟨p, hp, h1⟩ => ⟨p, hp, by rw [(e p hp).2]; exact h1⟩⟩
theorem ix_map {o : List Nat} {j : Nat} (h : j < o.length) : ix (o.map fun (x : Nat) => (x : Int)) (j : Int) = some ((o.getD j 0 : Nat) : Int) := by
  rw [ix_nat (by simpa using h)]; simp [List.getD, h]
theorem ix_getD {l : List Nat} {j : Nat} (h : j < l.length) : ix l (j : Int) = some (l.getD j 0) := by
  rw [ix_nat h]; simp [List.getD, h]
theorem sHas_ev {m j : Nat} (hm : m < 65536) (hj : j < 64) : sHas m (j : Int) = some (m.testBit j) := by
  unfold sHas; rw [if_pos ⟨hm, by omega, by omega⟩]; rfl
theorem getD_lt {bes : List Nat} (hb : ∀ m ∈ bes, m < 65536) (i : Nat) : bes.getD i 0 < 65536 := by
  by_cases h : i < bes.length
  · simp [List.getD, h]; exact hb _ (List.getElem_mem h)
  · simp [List.getD, h]
theorem besL_sym (l : List (Int × Int)) (a b : Int) : besL l a b = besL l b a := by unfold besL; rw [Bool.or_comm]
theorem besL_iff {l : List (Int × Int)} {a b : Int} : besL l a b = true ↔ ∃ p ∈ l, (p.1 = a ∧ p.2 = b) ∨ (p.1 = b ∧ p.2 = a) := by
  unfold besL goes
  rw [Bool.or_eq_true, List.any_eq_true, List.any_eq_true]
  constructor
  · rintro (⟨p, hp, h⟩ | ⟨p, hp, h⟩)
    · rw [Bool.and_eq_true, beq_iff_eq, beq_iff_eq] at h; exact ⟨p, hp, .inl h⟩
    · rw [Bool.and_eq_true, beq_iff_eq, beq_iff_eq] at h; exact ⟨p, hp, .inr h⟩
  · rintro ⟨p, hp, h | h⟩
    · exact .inl ⟨p, hp, by rw [Bool.and_eq_true, beq_iff_eq, beq_iff_eq]; exact h⟩
    · exact .inr ⟨p, hp, by rw [Bool.and_eq_true, beq_iff_eq, beq_iff_eq]; exact h⟩
/-- the lines of a list -/
def aL (l : List (Int × Int)) (i j : Nat) : Bool := besL l (i : Int) (j : Int)
theorem aL_sym (l : List (Int × Int)) (i j : Nat) : aL l i j = aL l j i := besL_sym _ _ _
theorem wf8 {k : Nat} (h : k ≤ 8) : (Lit.int .i64 (k : Int)).wf = true := by
  have : k = 0 ∨ k = 1 ∨ k = 2 ∨ k = 3 ∨ k = 4 ∨ k = 5 ∨ k = 6 ∨ k = 7 ∨ k = 8 := by omega
  rcases this with rfl | rfl | rfl | rfl | rfl | rfl | rfl | rfl | rfl <;> rfl
def rowN (l : List Nat) : List Int := l.map fun (x : Nat) => (x : Int)
theorem mem_take' {os : List Nat} {t v : Nat} (h : v ∈ os.take t) : ∃ r, r < t ∧ r < os.length ∧ os.getD r 0 = v := by
  obtain ⟨i, hi, e⟩ := List.getElem_of_mem h
  rw [List.length_take] at hi
  rw [List.getElem_take] at e
  exact ⟨i, by omega, by omega, by rw [← e]; simp [List.getD, show i < os.length by omega]⟩
theorem take_mem' {os : List Nat} {t r : Nat} (h : r < t) (h2 : r < os.length) : os.getD r 0 ∈ os.take t := by
  have e : os.getD r 0 = (os.take t)[r]'(by rw [List.length_take]; omega) := by rw [List.getElem_take]; simp [List.getD, h2]
  rw [e]; exact List.getElem_mem _
theorem getD_inj {os : List Nat} (hn : os.Nodup) {r s : Nat} (hr : r < os.length) (hs : s < os.length) (e : os.getD r 0 = os.getD s 0) : r = s := by
  have e1 : os[r] = os[s] := by simpa [List.getD, hr, hs] using e
  exact (List.getElem_inj hn).1 e1
theorem nodup_len_le : ∀ {l l' : List Nat}, l.Nodup → (∀ x ∈ l, x ∈ l') → l.length ≤ l'.length
  | [], _, _, _ => Nat.zero_le _
  | x :: l, l', hn, h => by
    obtain ⟨h1, h2⟩ := List.nodup_cons.1 hn
    have hx := h x List.mem_cons_self
    have := nodup_len_le (l := l) (l' := l'.erase x) h2 fun y hy => by
      rw [List.mem_erase_of_ne (fun e => h1 (by rw [← e]; exact hy))]
      exact h y (List.mem_cons_of_mem _ hy)
    rw [List.length_erase_of_mem hx] at this
    have := List.length_pos_of_mem hx
    simp; omega
theorem rowN_of {os : List Int} {k : Nat} (h : allIn os 0 ((k : Int) - 1) = true) : ∃ os' : List Nat, os = rowN os' ∧ ∀ x ∈ os', x < k := by
  refine ⟨os.map Int.toNat, ?_, ?_⟩
  · unfold rowN
    rw [List.map_map]
    refine (List.map_id os).symm.trans (List.map_congr_left fun x hx => ?_)
    have := List.all_eq_true.1 h x hx
    simp at this ⊢; omega
  · intro x hx
    obtain ⟨y, hy, rfl⟩ := List.mem_map.1 hx
    have := List.all_eq_true.1 h y hy
    simp at this; omega
theorem rowN_nodup {os : List Nat} (h : (rowN os).Nodup) : os.Nodup := by
  unfold rowN at h
  unfold List.Nodup at *
  rw [List.pairwise_map] at h
  exact h.imp fun hh e => hh (by rw [e])
theorem aL_irr {l : List (Int × Int)} (hne : ∀ p ∈ l, p.1 ≠ p.2) (v : Nat) : aL l v v = false := by
  refine Bool.eq_false_iff.2 fun q => ?_
  obtain ⟨p, hp, h⟩ := besL_iff.1 q
  exact hne p hp (by rcases h with ⟨a, b⟩ | ⟨a, b⟩ <;> rw [a, b])
theorem aL_lt {k : Nat} {l : List (Int × Int)} (hin : InL k l) {v u : Nat} (h : aL l v u = true) : v < k ∧ u < k := by
  obtain ⟨p, hp, h⟩ := besL_iff.1 h
  have := hin p hp
  rcases h with ⟨a, b⟩ | ⟨a, b⟩ <;> omega
theorem pos_of {os : List Nat} {k : Nat} (hol : os.length = k) (hok : ∀ x ∈ os, x < k) (hn : os.Nodup) {v : Nat} (hv : v < k) : ∃ s, s < k ∧ os.getD s 0 = v := by
  have hm : v ∈ os := Classical.byContradiction fun q => by
    have := nodup_len_le (l := v :: os) (l' := List.range k) (List.nodup_cons.2 ⟨q, hn⟩) (fun x hx => by
      rcases List.mem_cons.1 hx with rfl | hx
      · exact List.mem_range.2 hv
      · exact List.mem_range.2 (hok x hx))
    rw [List.length_cons, List.length_range] at this; omega
  obtain ⟨i, hi, e⟩ := List.getElem_of_mem hm
  exact ⟨i, by omega, by simp [List.getD, hi, e]⟩
theorem memb_and {x m : Nat} : memb (x &&& m) = (memb m).filter (fun v => x.testBit v) := by
  unfold memb
  rw [List.filter_filter]
  refine List.filter_congr fun v _ => ?_
  rw [Nat.testBit_and]
theorem bitLt {m n j : Nat} (hm : m < 2 ^ n) (hb : m.testBit j = true) : j < n := by
  rcases Nat.lt_or_ge j n with h1 | h1
  · exact h1
  · rw [Nat.testBit_lt_two_pow (Nat.lt_of_lt_of_le hm (Nat.pow_le_pow_right (by omega) h1))] at hb; cases hb
theorem memb_ne {m : Nat} (hm : m < 65536) (h : m ≠ 0) : memb m ≠ [] := by
  intro e
  refine h (Nat.eq_of_testBit_eq fun i => ?_)
  rw [Nat.zero_testBit]
  refine Bool.eq_false_iff.2 fun q => ?_
  have := (mem_memb hm).2 q
  rw [e] at this; cases this
theorem memb_out {left b : Nat} : memb (ndiff left (2 ^ b)) = (memb left).filter fun x => decide (x ≠ b) := by
  unfold memb
  rw [List.filter_filter]
  refine List.filter_congr fun x _ => ?_
  rw [ndiff_testBit, Nat.testBit_two_pow]
  by_cases e : x = b
  · subst e; simp
  · have e' : ¬ b = x := fun q => e q.symm
    simp [e, e']
theorem membNd (m : Nat) : (memb m).Nodup := List.Pairwise.filter _ List.nodup_range
theorem nodup_out : ∀ {l : List Nat} {b : Nat}, l.Nodup → b ∈ l → (l.filter fun x => decide (x ≠ b)).length + 1 = l.length
  | x :: l, b, hn, hb => by
    obtain ⟨h1, h2⟩ := List.nodup_cons.1 hn
    rw [List.filter_cons]
    by_cases e : x = b
    · subst e
      rw [if_neg (by simp), List.filter_eq_self.2 fun y hy => by
        simp; exact fun q => h1 (q ▸ hy)]
      rfl
    · rw [if_pos (by simpa using e)]
      have := nodup_out h2 ((List.mem_cons.1 hb).resolve_left fun q => e q.symm)
      simp only [List.length_cons]; omega
theorem memb_less {left b : Nat} (hb : b ∈ memb left) : (memb (ndiff left (2 ^ b))).length + 1 = (memb left).length := by
  rw [memb_out]; exact nodup_out (membNd left) hb
/-- the points of a set from i on -/
def restM (k left i : Nat) : List Nat := (List.range' i (k - i)).filter fun v => left.testBit v
theorem restM_step {k left i : Nat} (h : i < k) : restM k left i = if left.testBit i then i :: restM k left (i+1) else restM k left (i+1) := by
  unfold restM
  rw [show k - i = (k - (i+1)) + 1 by omega, List.range'_succ, List.filter_cons]
theorem restM_zero {k left : Nat} (hk : k ≤ 16) (h : left < 2 ^ k) : restM k left 0 = memb left := by
  unfold restM memb
  have e : List.range 16 = List.range k ++ (List.range (16 - k)).map (k + ·) := by
    rw [← List.range_add]; congr 1; omega
  have e0 : ((List.range (16 - k)).map (k + ·)).filter (fun i => left.testBit i) = [] := by
    rw [List.filter_eq_nil_iff]
    intro x hx
    obtain ⟨y, _, rfl⟩ := List.mem_map.1 hx
    rw [Nat.testBit_lt_two_pow (Nat.lt_of_lt_of_le h (Nat.pow_le_pow_right (by omega) (by omega)))]; simp
  rw [e, List.filter_append, e0, List.append_nil, Nat.sub_zero, List.range_eq_range']
structure Gone (k left : Nat) (gone : List Int) : Prop where
  len : gone.length ≤ 8
  mem : ∀ i : Nat, i < k → ((i : Int) ∈ gone ↔ left.testBit i = false)
def upN (i u : Nat) : Nat := if u < i then u else u + 1
def dnN (i u : Nat) : Nat := if i < u then u - 1 else u
theorem up_dn {i u : Nat} (h : u ≠ i) : upN i (dnN i u) = u := by unfold upN dnN; split <;> split <;> omega
theorem dn_up {i u : Nat} : dnN i (upN i u) = u := by unfold upN dnN; split <;> split <;> omega
end Go.Proofs.YtekfgkeimlidhaaGreatDoor
