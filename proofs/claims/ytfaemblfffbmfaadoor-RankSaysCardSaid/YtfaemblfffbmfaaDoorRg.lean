import Derived.Test.YtfaemblfffbmfaaDoorRm
import Derived.Test.YtfaemblfffbmfaaDoorRs1
/- what the document's Fair, Best, Rising and Greedy come to -/
set_option linter.all false
set_option maxRecDepth 100000
namespace Go.Proofs.YtfaemblfffbmfaaDoor
open Go.RowKit Pl
section
variable {k : Nat} {l : List (List Int)} {ws : List Int}
theorem pow_ev6 (h6 : k ≤ 6) : R3_Power 300 (k : Int) = some ((2 ^ k : Nat) : Int) := R3_Power_ev k (by omega)
theorem mem_ev6 {s : Nat} (h6 : k ≤ 6) (hs : s < 2 ^ k) : R3_Members 300 (s : Int) = some (membI s) := by
  have hp := Nat.pow_le_pow_right (n := 2) (by omega) h6
  exact R3_Members_ev s (by omega)
theorem ixM {s j : Nat} (h : j < (memb s).length) : ix (membI s) (j : Int) = some (((memb s)[j] : Nat) : Int) := ixN h
theorem lenM (s : Nat) : (membI s).length = (memb s).length := by unfold membI; rw [List.length_map]
theorem memM {s i : Nat} (hs : s < 65536) : (i : Int) ∈ membI s ↔ s.testBit i = true := by
  rw [← mem_memb hs]
  unfold membI
  constructor
  · intro q; obtain ⟨x, hx, e⟩ := List.mem_map.1 q; have e : (x : Int) = (i : Int) := e; have : x = i := by omega
    rw [← this]; exact hx
  · intro q; exact List.mem_map.2 ⟨i, q, rfl⟩
theorem hasM {s i : Nat} (hs : s < 65536) : R1_Has 300 (membI s) (i : Int) = some (s.testBit i) := by
  have := mb16 s
  rw [R1_Has_ev _ (by rw [lenM]; omega) (by rw [lenM]; omega)]
  congr 1
  rw [Bool.eq_iff_iff, decide_eq_true_eq, memM hs]
theorem behindL {ms : List Nat} (i : Nat) (hm : ms.length ≤ 100) : R1_Behind 300 (ms.map fun (x : Nat) => (x : Int)) (i : Int) = some ((ms ++ [i]).map fun (x : Nat) => (x : Int)) := by
  unfold R1_Behind appL app
  rw [if_pos (by simp; omega), Option.bind_some, if_pos (by simp; omega), Option.bind_some, List.map_append]; rfl
theorem mayM (h6 : k ≤ 6) (hl : Rw k l) (h24 : l.length ≤ 24) {s : Nat} (hs : s < 65536) : R3_May 300 l (membI s) = some (mayB l s) := by
  have := mb16 s
  exact mayR_ev (F := 300) (ms := memb s) (s := s) h6 hl h24 (by omega) (by omega) fun i => mem_memb hs
theorem mayMB (h6 : k ≤ 6) (hl : Rw k l) (h24 : l.length ≤ 24) {s i : Nat} (hs : s < 65536) : ((R1_Behind 300 (membI s) (i : Int)).bind fun y => R3_May 300 l y) = some (mayB l (s ||| 2 ^ i)) := by
  have := mb16 s
  rw [show R1_Behind 300 (membI s) (i : Int) = _ from behindL (ms := memb s) i (by omega), Option.bind_some]
  exact mayR_ev (F := 300) (ms := memb s ++ [i]) h6 hl h24 (by omega) (by rw [List.length_append]; simp; omega) fun j => by
    rw [or_bit, List.mem_append, mem_memb hs, List.mem_singleton]
/-! ### Fair -/
theorem dfa_L3 (h6 : k ≤ 6) (hl : Rw k l) (h24 : l.length ≤ 24) {a b : Nat} (ha : a < 65536) : ∀ (g j : Nat) (c : Bool), (memb b).length < j + g → j ≤ (memb b).length →
    ∃ x, R3_Fair_L3 300 l (membI a) (membI b) g c (j : Int) = some (c || ((memb b).drop j).any fun i => !a.testBit i && mayB l (a ||| 2 ^ i), x)
  | 0, j, c, h, hj => by omega
  | g+1, j, c, h, hj => by
    have hm := mb16 b
    rw [R3_Fair_L3_s, lenM]
    by_cases hc : j < (memb b).length
    · have e : (if c = true then some true else (ix (membI b) (j : Int)).bind fun y9 => (R1_Has 300 (membI a) y9).bind fun y10 => if y10 = true then some false else (ix (membI b) (j : Int)).bind fun y11 => (R1_Behind 300 (membI a) y11).bind fun y12 => (R3_May 300 l y12).bind fun y13 => if y13 = true then some true else some false)
          = some (c || (!a.testBit (memb b)[j] && mayB l (a ||| 2 ^ (memb b)[j]))) := by
        cases c
        · rw [if_neg (by decide), ixM hc, Option.bind_some, hasM ha, Option.bind_some, Bool.false_or]
          cases e1 : a.testBit (memb b)[j]
          · rw [if_neg (by decide), Option.bind_some, ← Option.bind_assoc, mayMB h6 hl h24 ha, Option.bind_some]
            cases mayB l (a ||| 2 ^ (memb b)[j]) <;> rfl
          · rw [if_pos rfl]; rfl
        · rw [if_pos rfl, Bool.true_or]
      rw [if_pos (by omega), e, Option.bind_some, w64n (by omega)]
      obtain ⟨x, hx⟩ := dfa_L3 h6 hl h24 (b := b) ha g (j+1) (c || (!a.testBit (memb b)[j] && mayB l (a ||| 2 ^ (memb b)[j]))) (by omega) (by omega)
      refine ⟨x, ?_⟩
      rw [hx, List.drop_eq_getElem_cons hc, List.any_cons, Bool.or_assoc]
    · have : j = (memb b).length := by omega
      subst this
      rw [if_neg (by omega), List.drop_length]
      exact ⟨_, by rw [List.any_nil, Bool.or_false]⟩
theorem dfa_L2 (h6 : k ≤ 6) (hl : Rw k l) (h24 : l.length ≤ 24) {a : Nat} (ha : a < 2 ^ k) (hma : mayB l a = true) : ∀ (g j : Nat), 2 ^ k < j + g → j ≤ 2 ^ k →
    ∃ y, R3_Fair_L2 300 (k : Int) l (membI a) g (j : Int) = some y ∧ ((∀ b, j ≤ b → b < 2 ^ k → ¬ Bad (mayB l) a b) → ∃ x, y = .inl x) ∧ ((∃ b, j ≤ b ∧ b < 2 ^ k ∧ Bad (mayB l) a b) → y = .inr false)
  | 0, j, h, hj => by omega
  | g+1, j, h, hj => by
    have hp := Nat.pow_le_pow_right (n := 2) (by omega) h6
    rw [R3_Fair_L2_s, pow_ev6 h6, Option.bind_some]
    by_cases c : j < 2 ^ k
    · have next : ¬ Bad (mayB l) a j → ∃ y, R3_Fair_L2 300 (k : Int) l (membI a) g ((j+1 : Nat) : Int) = some y ∧ ((∀ b, j ≤ b → b < 2 ^ k → ¬ Bad (mayB l) a b) → ∃ x, y = .inl x) ∧ ((∃ b, j ≤ b ∧ b < 2 ^ k ∧ Bad (mayB l) a b) → y = .inr false) := fun hnb => by
        obtain ⟨y, y1, y2, y3⟩ := dfa_L2 h6 hl h24 ha hma g (j+1) (by omega) (by omega)
        refine ⟨y, y1, fun q => y2 fun b hb => q b (by omega), fun ⟨b, b1, b2, b3⟩ => y3 ⟨b, ?_, b2, b3⟩⟩
        by_cases e : b = j
        · subst e; exact absurd b3 hnb
        · omega
      have ha6 : a < 65536 := by omega
      have hj6 : j < 65536 := by omega
      rw [if_pos (by omega), mem_ev6 h6 c, Option.bind_some, lenM, lenM, w64n (by omega)]
      by_cases c1 : (memb j).length ≤ (memb a).length
      · rw [if_pos (by omega), Option.bind_some, if_pos rfl]
        exact next fun q => by have := q.1; omega
      · rw [if_neg (by omega), mayM h6 hl h24 hj6, Option.bind_some]
        cases e2 : mayB l j
        · rw [if_neg (by decide), Option.bind_some, if_pos rfl]
          exact next fun q => by have := q.2.2.1; rw [e2] at this; cases this
        · rw [if_pos rfl, Option.bind_some, if_neg (by decide)]
          have hm := mb16 j
          obtain ⟨x, hx⟩ := dfa_L3 h6 hl h24 (b := j) ha6 300 0 false (by omega) (by omega)
          rw [show R3_Fair_L3 300 l (membI a) (membI j) 300 false 0 = _ from hx, Option.bind_some, List.drop_zero, Bool.false_or]
          dsimp only
          cases e3 : (memb j).any fun i => !a.testBit i && mayB l (a ||| 2 ^ i)
          · rw [if_neg (by decide)]
            have hbad : Bad (mayB l) a j := ⟨by omega, hma, e2, fun i i1 i2 => by
              have := List.any_eq_false.1 e3 i ((mem_memb hj6).2 i1)
              rw [i2] at this
              simpa using this⟩
            exact ⟨_, rfl, fun q => absurd hbad (q j (Nat.le_refl _) c), fun _ => rfl⟩
          · rw [if_pos rfl]
            refine next fun q => ?_
            obtain ⟨i, i1, i2⟩ := List.any_eq_true.1 e3
            rw [Bool.and_eq_true, Bool.not_eq_true'] at i2
            have := q.2.2.2 i ((mem_memb hj6).1 i1) i2.1
            rw [i2.2] at this; cases this
    · rw [if_neg (by omega)]
      exact ⟨_, rfl, fun _ => ⟨_, rfl⟩, fun ⟨b, b1, b2, _⟩ => by omega⟩
theorem dfa_L1 (h6 : k ≤ 6) (hl : Rw k l) (h24 : l.length ≤ 24) : ∀ (g j : Nat), 2 ^ k < j + g → j ≤ 2 ^ k →
    ∃ y, R3_Fair_L1 300 (k : Int) l g (j : Int) = some y ∧ ((∀ a b, j ≤ a → a < 2 ^ k → b < 2 ^ k → ¬ Bad (mayB l) a b) → ∃ x, y = .inl x) ∧ ((∃ a b, j ≤ a ∧ a < 2 ^ k ∧ b < 2 ^ k ∧ Bad (mayB l) a b) → y = .inr false)
  | 0, j, h, hj => by omega
  | g+1, j, h, hj => by
    have hp := Nat.pow_le_pow_right (n := 2) (by omega) h6
    rw [R3_Fair_L1_s, pow_ev6 h6, Option.bind_some]
    by_cases c : j < 2 ^ k
    · have next : (∀ b, b < 2 ^ k → ¬ Bad (mayB l) j b) → ∃ y, R3_Fair_L1 300 (k : Int) l g ((j+1 : Nat) : Int) = some y ∧ ((∀ a b, j ≤ a → a < 2 ^ k → b < 2 ^ k → ¬ Bad (mayB l) a b) → ∃ x, y = .inl x) ∧ ((∃ a b, j ≤ a ∧ a < 2 ^ k ∧ b < 2 ^ k ∧ Bad (mayB l) a b) → y = .inr false) := fun hnb => by
        obtain ⟨y, y1, y2, y3⟩ := dfa_L1 h6 hl h24 g (j+1) (by omega) (by omega)
        refine ⟨y, y1, fun q => y2 fun a b hb => q a b (by omega), fun ⟨a, b, b1, b2, b3, b4⟩ => y3 ⟨a, b, ?_, b2, b3, b4⟩⟩
        by_cases e : a = j
        · subst e; exact absurd b4 (hnb b b3)
        · omega
      rw [if_pos (by omega), mem_ev6 h6 c, Option.bind_some, mayM h6 hl h24 (by omega), Option.bind_some, w64n (by omega)]
      cases e2 : mayB l j
      · rw [if_neg (by decide)]
        exact next fun b _ q => by have := q.2.1; rw [e2] at this; cases this
      · rw [if_pos rfl]
        obtain ⟨y, y1, y2, y3⟩ := dfa_L2 h6 hl h24 c e2 300 0 (by omega) (by omega)
        rw [show R3_Fair_L2 300 (k : Int) l (membI j) 300 0 = _ from y1, Option.bind_some]
        by_cases hb : ∃ b, b < 2 ^ k ∧ Bad (mayB l) j b
        · obtain ⟨b, b1, b2⟩ := hb
          rw [y3 ⟨b, by omega, b1, b2⟩]
          exact ⟨_, rfl, fun q => absurd b2 (q j b (Nat.le_refl _) c b1), fun _ => rfl⟩
        · obtain ⟨x, rfl⟩ := y2 fun b _ h2 h3 => hb ⟨b, h2, h3⟩
          exact next fun b h1 h2 => hb ⟨b, h1, h2⟩
    · rw [if_neg (by omega)]
      exact ⟨_, rfl, fun _ => ⟨_, rfl⟩, fun ⟨a, b, b1, b2, _⟩ => by omega⟩
theorem dfair_ev (h6 : k ≤ 6) (hl : Rw k l) (h24 : l.length ≤ 24) : ∃ f, R3_Fair 300 (k : Int) l = some f ∧ (f = true ↔ FairP (mayB l) k) := by
  have hp := Nat.pow_le_pow_right (n := 2) (by omega) h6
  obtain ⟨y, y1, y2, y3⟩ := dfa_L1 h6 hl h24 300 0 (by omega) (Nat.zero_le _)
  unfold R3_Fair
  rw [show R3_Fair_L1 300 (k : Int) l 300 0 = _ from y1, Option.bind_some]
  by_cases hb : ∃ a b, a < 2 ^ k ∧ b < 2 ^ k ∧ Bad (mayB l) a b
  · obtain ⟨a, b, q1, q2, q3⟩ := hb
    rw [y3 ⟨a, b, by omega, q1, q2, q3⟩]
    exact ⟨false, rfl, by rw [fairP_iff]; exact ⟨fun h => (by cases h), fun h => absurd q3 (h a b q1 q2)⟩⟩
  · obtain ⟨x, rfl⟩ := y2 fun a b _ h1 h2 h3 => hb ⟨a, b, h1, h2, h3⟩
    exact ⟨true, rfl, by rw [fairP_iff]; exact ⟨fun _ a b q1 q2 q3 => hb ⟨a, b, q1, q2, q3⟩, fun _ => rfl⟩⟩
/-! ### Best -/
theorem dbe_L2 (hw : ws.length = k) (hws : allIn ws 0 20 = true) {s : Nat} (hs : ∀ x ∈ memb s, x < k) : ∀ (g j : Nat) (v : Int), (memb s).length < j + g → j ≤ (memb s).length → 0 ≤ v → v ≤ 20 * (j : Int) →
    ∃ x, R3_Best_L2 300 ws (membI s) g v (j : Int) = some (v + sumL (wof ws) ((memb s).drop j), x)
  | 0, j, v, h, hj, _, _ => by omega
  | g+1, j, v, h, hj, h0, hv => by
    have h16 := mb16 s
    rw [R3_Best_L2_s, lenM]
    by_cases c : j < (memb s).length
    · have hm := hs _ (List.getElem_mem c)
      have hwi := wof_bd hws (memb s)[j]
      have hix : ix ws (((memb s)[j] : Nat) : Int) = some (wof ws (memb s)[j]) := ix_at 0 (by omega)
      rw [if_pos (by omega), ixM c, Option.bind_some, hix, Option.bind_some, w64 (by omega) (by omega), w64n (by omega)]
      obtain ⟨x, hx⟩ := dbe_L2 hw hws hs g (j+1) (v + wof ws (memb s)[j]) (by omega) (by omega) (by omega) (by omega)
      refine ⟨x, ?_⟩
      rw [hx, List.drop_eq_getElem_cons c]
      simp only [sumL]
      rw [Int.add_assoc]
    · have : j = (memb s).length := by omega
      subst this
      rw [if_neg (by omega), List.drop_length]
      exact ⟨_, by simp only [sumL]; rw [Int.add_zero]⟩
theorem dbe_L1 (h6 : k ≤ 6) (hl : Rw k l) (h24 : l.length ≤ 24) (hw : ws.length = k) (hws : allIn ws 0 20 = true) : ∀ (g j : Nat) (v : Int), 2 ^ k < j + g → j ≤ 2 ^ k → (∀ s, s < j → mayB l s = true → sumL (wof ws) (memb s) ≤ v) → (∃ s, s < 2 ^ k ∧ mayB l s = true ∧ sumL (wof ws) (memb s) = v) →
    ∃ b x, R3_Best_L1 300 (k : Int) l ws g v (j : Int) = some (b, x) ∧ (∀ s, s < 2 ^ k → mayB l s = true → sumL (wof ws) (memb s) ≤ b) ∧ ∃ s, s < 2 ^ k ∧ mayB l s = true ∧ sumL (wof ws) (memb s) = b
  | 0, j, v, h, hj, _, _ => by omega
  | g+1, j, v, h, hj, ha, he => by
    have hp := Nat.pow_le_pow_right (n := 2) (by omega) h6
    rw [R3_Best_L1_s, pow_ev6 h6, Option.bind_some]
    by_cases c : j < 2 ^ k
    · have h16 := mb16 j
      obtain ⟨x, h2⟩ := dbe_L2 hw hws (s := j) (fun x hx => bits_lt c ((mem_memb (by omega)).1 hx)) 300 0 0 (by omega) (by omega) (by omega) (by omega)
      rw [List.drop_zero, Int.zero_add] at h2
      rw [if_pos (by omega), mem_ev6 h6 c, Option.bind_some, show R3_Best_L2 300 ws (membI j) 300 0 0 = _ from h2, Option.bind_some, w64n (by omega)]
      dsimp only
      by_cases hv : v < sumL (wof ws) (memb j)
      · rw [if_pos hv, mayM h6 hl h24 (by omega), Option.bind_some]
        by_cases hm : mayB l j = true
        · rw [if_pos hm, Option.bind_some, if_pos rfl]
          refine dbe_L1 h6 hl h24 hw hws g (j+1) _ (by omega) (by omega) (fun s hs hsm => ?_) ⟨j, c, hm, rfl⟩
          by_cases e : s = j
          · subst e; exact Int.le_refl _
          · have := ha s (by omega) hsm; omega
        · rw [if_neg hm, Option.bind_some, if_neg (by decide)]
          refine dbe_L1 h6 hl h24 hw hws g (j+1) _ (by omega) (by omega) (fun s hs hsm => ?_) he
          by_cases e : s = j
          · subst e; exact absurd hsm hm
          · exact ha s (by omega) hsm
      · rw [if_neg hv, Option.bind_some, if_neg (by decide)]
        refine dbe_L1 h6 hl h24 hw hws g (j+1) _ (by omega) (by omega) (fun s hs hsm => ?_) he
        by_cases e : s = j
        · subst e; omega
        · exact ha s (by omega) hsm
    · have : j = 2 ^ k := by omega
      subst this
      rw [if_neg (by omega)]
      exact ⟨v, _, rfl, ha, he⟩
theorem dbest_ev (h6 : k ≤ 6) (hl : Rw k l) (h24 : l.length ≤ 24) (hw : ws.length = k) (hws : allIn ws 0 20 = true) :
    ∃ b, R3_Best 300 (k : Int) l ws = some b ∧ (∀ s, s < 2 ^ k → mayB l s = true → sumL (wof ws) (memb s) ≤ b) ∧ ∃ s, s < 2 ^ k ∧ mayB l s = true ∧ sumL (wof ws) (memb s) = b := by
  have hp := Nat.pow_le_pow_right (n := 2) (by omega) h6
  have hm0 : memb 0 = [] := by decide
  obtain ⟨b, x, b1, b2, b3⟩ := dbe_L1 h6 hl h24 hw hws 300 0 0 (by omega) (Nat.zero_le _) (fun s hs => by omega) ⟨0, Nat.two_pow_pos k, may_zero, by rw [hm0]; rfl⟩
  refine ⟨b, ?_, b2, b3⟩
  unfold R3_Best
  rw [show R3_Best_L1 300 (k : Int) l ws 300 0 0 = _ from b1, Option.bind_some]
/-! ### Rising -/
def prm : Nat → List (List Nat)
  | 0 => [[]]
  | j+1 => (prm j).flatMap fun l => ((List.range 6).filter fun i => !l.contains i).map fun i => i :: l
theorem mem_prm : ∀ l : List Nat, l.Nodup → (∀ x ∈ l, x < 6) → l ∈ prm l.length
  | [], _, _ => List.mem_singleton.2 rfl
  | a :: l, h, hx => by
    obtain ⟨n1, n2⟩ := List.nodup_cons.1 h
    refine List.mem_flatMap.2 ⟨l, mem_prm l n2 fun x h => hx x (List.mem_cons_of_mem _ h), List.mem_map.2 ⟨a, List.mem_filter.2 ⟨List.mem_range.2 (hx a List.mem_cons_self), by simpa using n1⟩, rfl⟩⟩
theorem rise_all : ((List.range 7).all fun j => (prm j).all fun l => R1_Rising 300 (l.map fun (x : Nat) => (x : Int)) == some (membI (mkN l))) = true := by decide +kernel
theorem rise_ev {l : List Nat} (h : l.Nodup) (hx : ∀ x ∈ l, x < 6) : R1_Rising 300 (l.map fun (x : Nat) => (x : Int)) = some (membI (mkN l)) := by
  have hlen : l.length ≤ 6 := by
    have := nodup_len_le' h (l' := List.range 6) fun x q => List.mem_range.2 (hx x q)
    rw [List.length_range] at this; omega
  exact beq_iff_eq.1 (List.all_eq_true.1 (List.all_eq_true.1 rise_all l.length (List.mem_range.2 (by omega))) l (mem_prm l h hx))
/-! ### Greedy -/
def bef (w : Nat → Int) (a b : Nat) : Prop := w b < w a ∨ (w a = w b ∧ a < b)
theorem dgr_L2 (hw : ws.length = k) (h6 : k ≤ 6) {seen : List Nat} (hs : seen.length ≤ 6) : ∀ (g i : Nat) (v : Int), k < i + g → i ≤ k →
    ((v = -1 ∧ ∀ x, x < i → x ∈ seen) ∨ ∃ b : Nat, v = b ∧ b < i ∧ b ∉ seen ∧ ∀ x, x < i → x ∉ seen → x = b ∨ bef (wof ws) b x) →
    ∃ r x, R3_Greedy_L2 300 (k : Int) ws (seen.map fun (x : Nat) => (x : Int)) g v (i : Int) = some (r, x) ∧ ((r = -1 ∧ ∀ x, x < k → x ∈ seen) ∨ ∃ b : Nat, r = b ∧ b < k ∧ b ∉ seen ∧ ∀ x, x < k → x ∉ seen → x = b ∨ bef (wof ws) b x)
  | 0, i, v, h, hi, _ => by omega
  | g+1, i, v, h, hi, hv => by
    rw [R3_Greedy_L2_s]
    by_cases c : i < k
    · have hH : R1_Has 300 (seen.map fun (x : Nat) => (x : Int)) (i : Int) = some (decide (i ∈ seen)) := by
        rw [R1_Has_ev _ (by rw [List.length_map]; omega) (by rw [List.length_map]; omega)]
        congr 1
        rw [decide_eq_decide]
        constructor
        · intro q; obtain ⟨y, hy, e⟩ := List.mem_map.1 q; have e : (y : Int) = (i : Int) := e; have : y = i := by omega
          rw [← this]; exact hy
        · intro q; exact List.mem_map.2 ⟨i, q, rfl⟩
      rw [if_pos (by omega), hH, Option.bind_some, w64n (by omega)]
      by_cases hm : i ∈ seen
      · rw [decide_eq_true hm, if_pos rfl, Option.bind_some, if_neg (by decide)]
        refine dgr_L2 hw h6 hs g (i+1) v (by omega) (by omega) ?_
        rcases hv with ⟨e, q⟩ | ⟨b, e, b1, b2, b3⟩
        · refine .inl ⟨e, fun x hx => ?_⟩
          by_cases hxi : x = i
          · subst hxi; exact hm
          · exact q x (by omega)
        · refine .inr ⟨b, e, by omega, b2, fun x hx hxs => ?_⟩
          by_cases hxi : x = i
          · subst hxi; exact absurd hm hxs
          · exact b3 x (by omega) hxs
      · rw [decide_eq_false hm, if_neg (by decide)]
        rcases hv with ⟨e, q⟩ | ⟨b, e, b1, b2, b3⟩
        · rw [if_pos (by omega), Option.bind_some, if_pos rfl]
          refine dgr_L2 hw h6 hs g (i+1) (i : Int) (by omega) (by omega) (.inr ⟨i, rfl, by omega, hm, fun x hx hxs => ?_⟩)
          by_cases hxi : x = i
          · exact .inl hxi
          · exact absurd (q x (by omega)) hxs
        · have i1 : ix ws (i : Int) = some (wof ws i) := ix_at 0 (by omega)
          have i2 : ix ws (b : Int) = some (wof ws b) := ix_at 0 (by omega)
          subst e
          rw [if_neg (by omega), i1, Option.bind_some, i2, Option.bind_some]
          by_cases hlt : wof ws b < wof ws i
          · rw [if_pos hlt, Option.bind_some, if_pos rfl]
            refine dgr_L2 hw h6 hs g (i+1) (i : Int) (by omega) (by omega) (.inr ⟨i, rfl, by omega, hm, fun x hx hxs => ?_⟩)
            by_cases hxi : x = i
            · exact .inl hxi
            · refine .inr (.inl ?_)
              rcases b3 x (by omega) hxs with q | q | q
              · rw [q]; exact hlt
              · omega
              · omega
          · rw [if_neg hlt, Option.bind_some, if_neg (by decide)]
            refine dgr_L2 hw h6 hs g (i+1) (b : Int) (by omega) (by omega) (.inr ⟨b, rfl, by omega, b2, fun x hx hxs => ?_⟩)
            by_cases hxi : x = i
            · subst hxi
              refine .inr ?_
              unfold bef; omega
            · exact b3 x (by omega) hxs
    · have : i = k := by omega
      subst this
      rw [if_neg (by omega)]
      exact ⟨_, _, rfl, hv⟩
theorem dgr_L1 (h6 : k ≤ 6) (hl : Rw k l) (h24 : l.length ≤ 24) (hw : ws.length = k) (hws : allIn ws 0 20 = true) {ord : List Nat} (hn : ord.Nodup) (hord : ∀ x, x ∈ ord ↔ x < k) (hp : ord.Pairwise fun a b => wof ws b < wof ws a ∨ (wof ws a = wof ws b ∧ a < b)) (hlen : ord.length = k) : ∀ (g j : Nat) (has : List Nat), k < j + g → j ≤ k →
    has.Nodup → (∀ i, i ∈ has ↔ (G (mayB l) (ord.take j) 0).testBit i = true) →
    ∃ (hs : List Nat) (y : List Int × Int), R3_Greedy_L1 300 (k : Int) l ws g (has.map fun (x : Nat) => (x : Int)) ((ord.take j).map fun (x : Nat) => (x : Int)) (sumL (wof ws) (memb (G (mayB l) (ord.take j) 0))) (j : Int) = some (hs.map fun (x : Nat) => (x : Int), y.1, sumL (wof ws) (memb (G (mayB l) ord 0)), y.2) ∧ hs.Nodup ∧ ∀ i, i ∈ hs ↔ (G (mayB l) ord 0).testBit i = true
  | 0, j, has, h, hj, _, _ => by omega
  | g+1, j, has, h, hj, hh1, hh2 => by
    rw [R3_Greedy_L1_s]
    by_cases c : j < k
    · have c' : j < ord.length := by omega
      have hi := (hord _).1 (List.getElem_mem c')
      have htl : (ord.take j).length ≤ 6 := by rw [List.length_take]; omega
      obtain ⟨r, x, r1, r2⟩ := dgr_L2 (k := k) hw h6 htl 300 0 (-1) (by omega) (by omega) (.inl ⟨rfl, fun x hx => by omega⟩)
      have hnot : ord[j] ∉ ord.take j := by
        intro hm
        have hnd : (ord.take (j+1)).Nodup := hn.sublist (List.take_sublist _ _)
        rw [List.take_succ_eq_append_getElem c', List.nodup_append] at hnd
        exact hnd.2.2 _ hm _ (List.mem_singleton.2 rfl) rfl
      have hr : r = ((ord[j] : Nat) : Int) := by
        rcases r2 with ⟨_, q⟩ | ⟨b, e, b1, b2, b3⟩
        · exact absurd (q _ hi) hnot
        · rcases b3 _ hi hnot with q | q
          · rw [e, q]
          · exfalso
            obtain ⟨p, hp1, hp2⟩ := List.getElem_of_mem ((hord b).2 b1)
            rcases Nat.lt_trichotomy p j with hpj | hpj | hpj
            · exact b2 (by rw [← hp2]; exact List.mem_take_iff_getElem.2 ⟨p, by omega, rfl⟩)
            · subst hpj; rw [hp2] at q; unfold bef at q; omega
            · have := List.pairwise_iff_getElem.1 hp j p c' hp1 hpj
              rw [hp2] at this; unfold bef at q; omega
      rw [if_pos (by omega), show R3_Greedy_L2 300 (k : Int) ws ((ord.take j).map fun (x : Nat) => (x : Int)) 300 (-1) 0 = _ from r1, Option.bind_some]
      dsimp only
      rw [hr]
      have hbit : (G (mayB l) (ord.take j) 0).testBit ord[j] = false := by
        cases e : (G (mayB l) (ord.take j) 0).testBit ord[j]
        · rfl
        · rcases G_from _ _ _ e with q | q
          · rw [Nat.zero_testBit] at q; cases q
          · exact absurd q hnot
      have hG : G (mayB l) (ord.take j) 0 < 65536 := by
        have : G (mayB l) (ord.take j) 0 < 2 ^ 16 := lt_bits fun x hx => by
          rcases G_from _ _ _ hx with q | q
          · rw [Nat.zero_testBit] at q; cases q
          · have := (hord x).1 (List.mem_of_mem_take q); omega
        exact this
      have hstep : G (mayB l) (ord.take (j+1)) 0 = gr (mayB l) (G (mayB l) (ord.take j) 0) ord[j] := by
        rw [List.take_succ_eq_append_getElem c', G_app]; rfl
      have hsum := W_bd (wof_bd hws) (G (mayB l) (ord.take j) 0)
      have hwi := wof_bd hws ord[j]
      have hhl : has.length ≤ 6 := by
        have := nodup_len_le' hh1 (l' := List.range 6) fun x hx => by
          rcases G_from _ _ _ ((hh2 x).1 hx) with q | q
          · rw [Nat.zero_testBit] at q; cases q
          · have := (hord x).1 (List.mem_of_mem_take q); exact List.mem_range.2 (by omega)
        rw [List.length_range] at this; omega
      have hseen : app ((ord.take j).map fun (x : Nat) => (x : Int)) ((ord[j] : Nat) : Int) = some ((ord.take (j+1)).map fun (x : Nat) => (x : Int)) := by
        unfold app
        rw [if_pos (by rw [List.length_map]; omega), List.take_succ_eq_append_getElem c', List.map_append]; rfl
      have hhas : app (has.map fun (x : Nat) => (x : Int)) ((ord[j] : Nat) : Int) = some ((has ++ [ord[j]]).map fun (x : Nat) => (x : Int)) := by
        unfold app
        rw [if_pos (by rw [List.length_map]; omega), List.map_append]; rfl
      obtain ⟨hh, hhe⟩ : ∃ hh, G (mayB l) (ord.take j) 0 = hh := ⟨_, rfl⟩
      rw [hhe] at hbit hG hstep hsum hh2 ⊢
      have hix : ix ws ((ord[j] : Nat) : Int) = some (wof ws ord[j]) := ix_at 0 (by omega)
      have hmay := mayR_ev (F := 300) (ms := has ++ [ord[j]]) (s := hh ||| 2 ^ ord[j]) h6 hl h24 (by omega) (by rw [List.length_append]; simp; omega) fun i => by
        rw [or_bit, List.mem_append, hh2, List.mem_singleton]
      rw [hseen, Option.bind_some, behindL _ (by omega), Option.bind_some, hmay, Option.bind_some, w64n (by omega)]
      unfold gr at hstep
      by_cases e : mayB l (hh ||| 2 ^ ord[j]) = true
      · rw [if_pos e] at hstep ⊢
        rw [hhas, Option.bind_some, hix, Option.bind_some, w64 (by omega) (by omega), ← W_more hG (by omega) hbit, ← hstep]
        refine dgr_L1 h6 hl h24 hw hws hn hord hp hlen g (j+1) (has ++ [ord[j]]) (by omega) (by omega) ?_ fun i => ?_
        · rw [List.nodup_append]
          refine ⟨hh1, by simp, fun x hx y hy e => ?_⟩
          rw [List.mem_singleton.1 hy] at e; subst e
          have := (hh2 _).1 hx; rw [hbit] at this; cases this
        · rw [hstep, or_bit, List.mem_append, hh2, List.mem_singleton]
      · rw [if_neg e] at hstep ⊢
        rw [← hstep]
        exact dgr_L1 h6 hl h24 hw hws hn hord hp hlen g (j+1) has (by omega) (by omega) hh1 fun i => by rw [hstep, hh2]
    · have : j = ord.length := by omega
      subst this
      rw [if_neg (by omega), List.take_length]
      rw [List.take_length] at hh2
      exact ⟨has, (_, _), rfl, hh1, hh2⟩
theorem dgreedy_ev (h6 : k ≤ 6) (hl : Rw k l) (h24 : l.length ≤ 24) (hw : ws.length = k) (hws : allIn ws 0 20 = true) {ord : List Nat} (hn : ord.Nodup) (hord : ∀ x, x ∈ ord ↔ x < k) (hp : ord.Pairwise fun a b => wof ws b < wof ws a ∨ (wof ws a = wof ws b ∧ a < b)) :
    R3_Greedy 300 (k : Int) l ws = some (membI (G (mayB l) ord 0), sumL (wof ws) (memb (G (mayB l) ord 0))) := by
  have hlen : ord.length = k := by
    have := len_ext hn (l' := List.range k) List.nodup_range fun x => by rw [hord, List.mem_range]
    rwa [List.length_range] at this
  have e0 : G (mayB l) (ord.take 0) 0 = 0 := rfl
  obtain ⟨hs, y, h1, h2, h3⟩ := dgr_L1 h6 hl h24 hw hws hn hord hp hlen 300 0 [] (by omega) (by omega) List.nodup_nil fun i => by rw [e0, Nat.zero_testBit]; simp
  have hm0 : memb 0 = [] := by decide
  rw [e0, hm0] at h1
  have hr := rise_ev (l := hs) h2 fun x hx => by
    rcases G_from _ _ _ ((h3 x).1 hx) with q | q
    · rw [Nat.zero_testBit] at q; cases q
    · have := (hord x).1 q; omega
  have he : mkN hs = G (mayB l) ord 0 := by
    apply Nat.eq_of_testBit_eq
    intro i
    rw [Bool.eq_iff_iff, mkN_bit, h3]
  unfold R3_Greedy
  rw [show R3_Greedy_L1 300 (k : Int) l ws 300 [] [] 0 0 = _ from h1, Option.bind_some]
  dsimp only
  rw [hr, Option.bind_some, he]
end
end Go.Proofs.YtfaemblfffbmfaaDoor
