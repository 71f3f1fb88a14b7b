import Derived.Test.YthgejnjfikljcaaDoorMK
import Derived.Test.YthgejnjfikljcaaDoorF3
/- the document's Costs answers as the program's Check; lines turned and lines that cost more -/
set_option linter.all false
set_option maxRecDepth 100000
namespace Go.Proofs.YthgejnjfikljcaaDoor
open Go.RowKit Pl
theorem costs_L1 (n : Int) (hn : 1 ≤ n ∧ n ≤ 8) (l : List Cost) (hl : l.length ≤ 24) : ∀ g t, l.length < g + t → t ≤ l.length →
    ∃ z, R3_Costs_L1 300 n l g (t : Int) = some (if errCs n (l.drop t) = 0 then .inl z else .inr (errCs n (l.drop t)))
  | 0, t, h, _ => by omega
  | g+1, t, h, ht => by
    rw [R3_Costs_L1_s]
    by_cases hlt : t < l.length
    · rw [if_pos (by omega), ix_nat hlt, List.drop_eq_getElem_cons hlt, w64n (by omega), w64 (by omega) (by omega)]
      obtain ⟨z, ih⟩ := costs_L1 n hn l hl g (t+1) (by omega) (by omega)
      push_cast at ih
      generalize l[t] = e at *
      simp only [Option.bind_some, R3_in_ev]
      unfold errCs
      refine ⟨z, ?_⟩
      by_cases h1 : 0 ≤ e.1 ∧ e.1 ≤ n - 1
      · by_cases h2 : 0 ≤ e.2.1 ∧ e.2.1 ≤ n - 1
        · by_cases h3 : 0 ≤ e.2.2 ∧ e.2.2 ≤ 20
          · rw [if_pos (decide_eq_true h1), if_pos (decide_eq_true h2), if_neg (not_not_intro (And.intro (And.intro h1 h2) h3))]
            simp only [Option.bind_some]
            rw [if_neg (by decide), if_pos (decide_eq_true h3)]
            simp only [Option.bind_some]
            rw [if_neg (by decide)]
            by_cases h4 : e.1 = e.2.1
            · rw [if_pos (by simpa using h4), if_pos h4]; simp
            · rw [if_neg (by simpa using h4), if_neg h4]; exact ih
          · rw [if_pos (decide_eq_true h1), if_pos (decide_eq_true h2), if_pos (fun h => h3 h.2)]
            simp only [Option.bind_some]
            rw [if_neg (by decide), if_neg (by simpa using h3)]
            simp
        · rw [if_pos (decide_eq_true h1), if_neg (by simpa using h2), if_pos (fun h => h2 h.1.2)]
          simp
      · rw [if_neg (by simpa using h1), if_pos (fun h => h1 h.1.1)]
        simp
    · obtain rfl : t = l.length := by omega
      rw [if_neg (by omega), List.drop_length]; exact ⟨_, rfl⟩
theorem R3_Costs_ev (n : Int) (l : List Cost) : R3_Costs 300 n l = some (errC n l) := by
  unfold R3_Costs errC
  rw [R3_in_ev, Option.bind_some]
  by_cases hn : 1 ≤ n ∧ n ≤ 8
  · rw [if_pos (by simpa using hn), if_neg (not_not_intro hn)]
    by_cases hl : 24 < l.length
    · rw [if_pos (by omega), if_pos hl]
    · obtain ⟨z, h⟩ := costs_L1 n hn l (by omega) 300 0 (by omega) (by omega)
      have h' : R3_Costs_L1 300 n l 300 0 = _ := h
      rw [if_neg (by omega), if_neg hl, h', List.drop_zero]
      by_cases e : errCs n l = 0 <;> simp [e]
  · rw [if_neg (by simpa using hn), if_pos hn]
/-! ### back from InC -/
theorem errCs_of {k : Nat} : ∀ {l : List Cost}, InC k l → errCs (k : Int) l = 0
  | [], _ => rfl
  | e :: l, h => by
    have h0 := h e (List.mem_cons_self ..)
    unfold errCs
    rw [if_neg (by omega), if_neg h0.2.2.2]
    exact errCs_of (fun x hx => h x (List.mem_cons_of_mem _ hx))
theorem errC_of {k : Nat} {l : List Cost} (h1 : 1 ≤ k) (h8 : k ≤ 8) (hl : l.length ≤ 24) (h : InC k l) : errC (k : Int) l = 0 := by
  unfold errC
  rw [if_neg (by omega), if_neg (by omega)]; exact errCs_of h
/-- the mean, without bounds -/
structure MW (k : Nat) (l : List Cost) (a b : Int) : Prop where
  b0 : 1 ≤ b
  all : ∀ u es, 0 ≤ u → u < (k : Int) → chain l u es u → a * (es.length : Int) ≤ cst es * b
  one : ∃ u es, 0 ≤ u ∧ u < (k : Int) ∧ chain l u es u ∧ es ≠ [] ∧ a * (es.length : Int) = cst es * b
theorem Mean.mw {k : Nat} {l : List Cost} {a b : Int} (h : Mean k l a b) : MW k l a b := ⟨h.b0, h.all, h.one⟩
theorem MW.le {k : Nat} {l : List Cost} {a b a' b' : Int} (h : MW k l a b) (h' : MW k l a' b') : a' * b ≤ a * b' := by
  obtain ⟨u, es, h0, h1, hc, hne, he⟩ := h.one
  have h2 := h'.all u es h0 h1 hc
  have b0 := h.b0; have b0' := h'.b0
  have hl : 1 ≤ es.length := by cases es with
    | nil => exact absurd rfl hne
    | cons e es => simp
  have hl' : (0 : Int) < (es.length : Int) := by omega
  have h3 := Int.mul_le_mul_of_nonneg_right h2 (show 0 ≤ b by omega)
  have e1 : a' * (es.length : Int) * b = a' * b * (es.length : Int) := by simp only [Int.mul_assoc, Int.mul_comm, Int.mul_left_comm]
  have e2 : cst es * b' * b = a * b' * (es.length : Int) := by
    have : cst es * b' * b = cst es * b * b' := by simp only [Int.mul_assoc, Int.mul_comm, Int.mul_left_comm]
    rw [this, ← he]; simp only [Int.mul_assoc, Int.mul_comm, Int.mul_left_comm]
  rw [e1, e2] at h3
  exact Int.le_of_mul_le_mul_right h3 hl'
theorem MW.eq {k : Nat} {l : List Cost} {a b a' b' : Nat} (h : MW k l a b) (h' : MW k l a' b') (hg : Nat.gcd b a = 1) (hg' : Nat.gcd b' a' = 1) : a' = a ∧ b' = b := by
  have e : a' * b = a * b' := by
    have := Int.le_antisymm (h.le h') (h'.le h)
    exact_mod_cast this
  have b0 := h.b0; have b0' := h'.b0
  have d1 : b ∣ b' := by
    have : b ∣ a * b' := ⟨a', by rw [← e, Nat.mul_comm]⟩
    exact Nat.Coprime.dvd_of_dvd_mul_left hg this
  have d2 : b' ∣ b := by
    have : b' ∣ a' * b := ⟨a, by rw [e, Nat.mul_comm]⟩
    exact Nat.Coprime.dvd_of_dvd_mul_left hg' this
  have eb : b' = b := Nat.dvd_antisymm d2 d1
  subst eb
  exact ⟨Nat.eq_of_mul_eq_mul_right (by omega) e, rfl⟩
/-! ### turned -/
def sw (e : Cost) : Cost := (e.2.1, e.1, e.2.2)
theorem sw_sw (e : Cost) : sw (sw e) = e := rfl
theorem chain_sw {l l' : List Cost} (hl : ∀ e ∈ l, sw e ∈ l') : ∀ (es : List Cost) {u v : Int}, chain l u es v → chain l' v (es.map sw).reverse u
  | [], u, v, h => by cases h; rfl
  | e :: es, u, v, h => by
    rw [List.map_cons, List.reverse_cons]
    exact (chain_app _).2 ⟨e.2.1, chain_sw hl es h.2.2, hl e h.1, rfl, h.2.1⟩
theorem cst_rev : ∀ es : List Cost, cst es.reverse = cst es
  | [] => rfl
  | e :: es => by rw [List.reverse_cons, cst_app, cst_rev es]; simp only [cst]; omega
theorem cst_sw : ∀ es : List Cost, cst (es.map sw) = cst es
  | [] => rfl
  | e :: es => by rw [List.map_cons]; simp only [cst, cst_sw es]; rfl
def turn (l : List Cost) : List Cost := l.reverse.map sw
theorem mem_turn {l : List Cost} {e : Cost} : e ∈ turn l ↔ sw e ∈ l := by
  unfold turn
  rw [List.mem_map]
  constructor
  · rintro ⟨x, hx, rfl⟩; exact List.mem_reverse.1 hx
  · intro h; exact ⟨sw e, List.mem_reverse.2 h, rfl⟩
theorem turn_len (l : List Cost) : (turn l).length = l.length := by simp [turn]
theorem turn_in {k : Nat} {l : List Cost} (h : InC k l) : InC k (turn l) := fun e he => by
  have := h _ (mem_turn.1 he)
  unfold sw at this
  exact ⟨this.2.1, this.1, this.2.2.1, fun q => this.2.2.2 q.symm⟩
theorem turn_mw {k : Nat} {l : List Cost} {a b : Int} (h : MW k l a b) : MW k (turn l) a b := by
  have t1 : ∀ e ∈ turn l, sw e ∈ l := fun e he => mem_turn.1 he
  have t2 : ∀ e ∈ l, sw e ∈ turn l := fun e he => mem_turn.2 he
  refine ⟨h.b0, fun u es h0 h1 hc => ?_, ?_⟩
  · have := h.all u _ h0 h1 (chain_sw t1 es hc)
    rw [cst_rev, cst_sw, List.length_reverse, List.length_map] at this
    exact this
  · obtain ⟨u, es, h0, h1, hc, hne, he⟩ := h.one
    refine ⟨u, _, h0, h1, chain_sw t2 es hc, by simpa using hne, ?_⟩
    rw [cst_rev, cst_sw, List.length_reverse, List.length_map]; exact he
/-! ### more -/
def mo (by_ : Int) (e : Cost) : Cost := (e.1, e.2.1, e.2.2 + by_)
theorem mo_mo (c : Int) (e : Cost) : mo (-c) (mo c e) = e := by
  unfold mo; simp only []; rw [show e.2.2 + c + -c = e.2.2 by omega]
theorem chain_mo {c : Int} {l l' : List Cost} (hl : ∀ e ∈ l, mo c e ∈ l') : ∀ (es : List Cost) {u v : Int}, chain l u es v → chain l' u (es.map (mo c)) v
  | [], u, v, h => h
  | e :: es, u, v, h => ⟨hl e h.1, h.2.1, chain_mo hl es h.2.2⟩
theorem cst_mo (c : Int) : ∀ es : List Cost, cst (es.map (mo c)) = cst es + c * (es.length : Int)
  | [] => by simp [cst]
  | e :: es => by
    rw [List.map_cons]
    simp only [cst, cst_mo c es, mo, List.length_cons]
    push_cast; rw [Int.mul_add]; omega
theorem mo_mw {k : Nat} {l : List Cost} {a b c : Int} (h : MW k l a b) : MW k (l.map (mo c)) (a + c * b) b := by
  have t1 : ∀ e ∈ l.map (mo c), mo (-c) e ∈ l := fun e he => by
    obtain ⟨x, hx, rfl⟩ := List.mem_map.1 he
    rw [mo_mo]; exact hx
  have t2 : ∀ e ∈ l, mo c e ∈ l.map (mo c) := fun e he => List.mem_map.2 ⟨e, he, rfl⟩
  have ar : ∀ (x n : Int), (a + c * b) * n = a * n + c * n * b := fun x n => by
    rw [Int.add_mul]; simp only [Int.mul_assoc, Int.mul_comm, Int.mul_left_comm]
  refine ⟨h.b0, fun u es h0 h1 hc => ?_, ?_⟩
  · have := h.all u _ h0 h1 (chain_mo t1 es hc)
    rw [cst_mo, List.length_map, Int.add_mul, Int.neg_mul, Int.neg_mul] at this
    rw [ar 0]; omega
  · obtain ⟨u, es, h0, h1, hc, hne, he⟩ := h.one
    refine ⟨u, _, h0, h1, chain_mo t2 es hc, by simpa using hne, ?_⟩
    rw [cst_mo, List.length_map, ar 0, he, Int.add_mul]
end Go.Proofs.YthgejnjfikljcaaDoor
