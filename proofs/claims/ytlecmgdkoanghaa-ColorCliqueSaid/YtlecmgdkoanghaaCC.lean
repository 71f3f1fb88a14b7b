import Derived.Test.YtlecmgdkoanghaaOd
import Derived.Test.YtlecmgdkoanghaaHe
import Derived.Test.YtlecmgdkoanghaaCLs
import Derived.Test.YtlecmgdkoanghaaCq
/- plain: ColorClique holds -/
set_option linter.all false
set_option maxRecDepth 100000
namespace Go.Proofs.Ytlecmgdkoanghaa
open Go.RowKit Go.Shelf Pl
/-! ### rings -/
def lastN (ws : List Nat) : Nat := ws.getD (ws.length - 1) 0
def extB (a : Nat → Nat → Bool) (k : Nat) : Nat → List Nat → Bool
  | 0, ws => a (lastN ws) (ws.getD 0 0)
  | r+1, ws => (List.range' 0 k).any fun b => (a (lastN ws) b && !decide (b ∈ ws)) && extB a k r (ws ++ [b])
theorem behN_ev (o : List Nat) (c : Nat) (ho : o.length ≤ 100) : R1_Behind 300 (rowN o) (c : Int) = some (rowN (o ++ [c])) := by
  unfold R1_Behind
  unfold appL app rowN
  simp only [List.length_nil, List.length_map, List.nil_append]
  rw [if_pos (by omega), Option.bind_some, List.length_map, if_pos (by omega)]
  simp
theorem mem_rowN {ws : List Nat} {b : Nat} : ((b : Int) ∈ rowN ws) ↔ b ∈ ws := by
  unfold rowN
  rw [List.mem_map]
  constructor
  · rintro ⟨x, hx, e⟩
    have : x = b := Int.ofNat.inj e
    subst this; exact hx
  · intro h; exact ⟨b, h, rfl⟩
theorem rg_L1 {l : List (Int × Int)} (hl : l.length ≤ 24) {k : Nat} (h8 : k ≤ 8) (m : Int) (rec : Int → List (Int × Int) → List Int → Int → Option Bool) {ws : List Nat} (hw : ws.length ≤ 20) (v : Nat) (E : Nat → Bool)
    (hr : ∀ b, rec (k : Int) l (rowN (ws ++ [b])) m = some (E b)) : ∀ (g c : Nat), k < c + g → c ≤ k →
    ∃ x : Int ⊕ Bool, R1_ring_L1 300 rec (k : Int) l (rowN ws) m (v : Int) g (c : Int) = some x ∧ (match x with | .inr r => some r | .inl _ => some false) = some ((List.range' c (k - c)).any fun b => (aL l v b && !decide (b ∈ ws)) && E b)
  | 0, c, h, hc => by omega
  | g+1, c, h, hc => by
    have hlen : (rowN ws).length = ws.length := by unfold rowN; rw [List.length_map]
    rw [R1_ring_L1_s]
    by_cases hlt : c < k
    · have e : List.range' c (k - c) = c :: List.range' (c+1) (k - (c+1)) := by
        rw [show k - c = (k - (c+1)) + 1 by omega, List.range'_succ]
      have hb : R1_Beside 300 l (v : Int) (c : Int) = some (aL l v c) := R1_Beside_ev _ _ (by omega) (by omega)
      have hh : R1_Has 300 (rowN ws) (c : Int) = some (decide (c ∈ ws)) := by
        rw [R1_Has_ev _ (by omega) (by omega)]; congr 1; exact decide_eq_decide.2 mem_rowN
      obtain ⟨y, y1, y2⟩ := rg_L1 hl h8 m rec hw v E hr g (c+1) (by omega) (by omega)
      rw [if_pos (by omega), hb, Option.bind_some, w64n (by omega), behN_ev ws c (by omega), e, List.any_cons]
      cases e1 : aL l v c
      · rw [if_neg (by decide), Option.bind_some, if_neg (by decide), Option.bind_some, if_neg (by decide), Bool.false_and, Bool.false_and, Bool.false_or]
        exact ⟨y, y1, y2⟩
      · rw [if_pos rfl, hh, Option.bind_some]
        cases e2 : decide (c ∈ ws)
        · rw [if_neg (by decide), Option.bind_some, if_pos rfl, Option.bind_some, hr, Option.bind_some]
          cases e3 : E c
          · rw [if_neg (by decide), Option.bind_some, if_neg (by decide), Bool.and_false, Bool.false_or]
            exact ⟨y, y1, y2⟩
          · rw [if_pos rfl, Option.bind_some, if_pos rfl]
            exact ⟨_, rfl, by simp⟩
        · rw [if_pos rfl, Option.bind_some, if_neg (by decide), Option.bind_some, if_neg (by decide), Bool.not_true, Bool.and_false, Bool.false_and, Bool.false_or]
          exact ⟨y, y1, y2⟩
    · have : c = k := by omega
      subst this
      rw [if_neg (by omega), Nat.sub_self]
      exact ⟨_, rfl, rfl⟩
theorem ring_ev {l : List (Int × Int)} (hl : l.length ≤ 24) {k : Nat} (h8 : k ≤ 8) {m : Nat} (hm : m ≤ 8) : ∀ (d r : Nat) (ws : List Nat), r < d → 1 ≤ ws.length → ws.length + r = m →
    R1_ring 300 d (k : Int) l (rowN ws) (m : Int) = some (extB (aL l) k r ws)
  | 0, r, ws, h, _, _ => by omega
  | d+1, r, ws, h, h1, hws => by
    have hlen : (rowN ws).length = ws.length := by unfold rowN; rw [List.length_map]
    have i1 : ix (rowN ws) (wrap64 ((ws.length : Int) - 1)) = some ((lastN ws : Nat) : Int) := by
      rw [w64 (by omega) (by omega), show (ws.length : Int) - 1 = ((ws.length - 1 : Nat) : Int) by omega]
      exact ix_map (by omega)
    rw [R1_ring_s, hlen, i1, Option.bind_some]
    cases r with
    | zero =>
      have i2 : ix (rowN ws) 0 = some ((ws.getD 0 0 : Nat) : Int) := ix_map (j := 0) (by omega)
      have hb : R1_Beside 300 l ((lastN ws : Nat) : Int) ((ws.getD 0 0 : Nat) : Int) = some (aL l (lastN ws) (ws.getD 0 0)) := R1_Beside_ev _ _ (by omega) (by omega)
      rw [if_pos (by rw [beq_iff_eq]; omega), i2, Option.bind_some, hb]; rfl
    | succ r =>
      obtain ⟨x, x1, x2⟩ := rg_L1 hl h8 (m : Int) (R1_ring 300 d) (ws := ws) (by omega) (lastN ws) (fun b => extB (aL l) k r (ws ++ [b])) (fun b => ring_ev hl h8 hm d r (ws ++ [b]) (by omega) (by rw [List.length_append, List.length_singleton]; omega) (by rw [List.length_append, List.length_singleton]; omega)) 300 0 (by omega) (by omega)
      rw [if_neg (by rw [beq_iff_eq]; omega), show R1_ring_L1 300 (R1_ring 300 d) (k : Int) l (rowN ws) (m : Int) ((lastN ws : Nat) : Int) 300 0 = _ from x1, Option.bind_some]
      rw [Nat.sub_zero] at x2
      exact x2
def ringB (a : Nat → Nat → Bool) (k m : Nat) : Bool := (List.range' 0 k).any fun v => extB a k (m - 1) [v]
theorem Ring_L1 {l : List (Int × Int)} (hl : l.length ≤ 24) {k : Nat} (h8 : k ≤ 8) {m : Nat} (hm1 : 1 ≤ m) (hm : m ≤ 8) : ∀ (g c : Nat), k < c + g → c ≤ k →
    ∃ x : Int ⊕ Bool, R1_Ring_L1 300 (k : Int) l (m : Int) g (c : Int) = some x ∧ (match x with | .inr r => some r | .inl _ => some false) = some ((List.range' c (k - c)).any fun v => extB (aL l) k (m - 1) [v])
  | 0, c, h, hc => by omega
  | g+1, c, h, hc => by
    rw [R1_Ring_L1_s]
    by_cases hlt : c < k
    · have e : List.range' c (k - c) = c :: List.range' (c+1) (k - (c+1)) := by
        rw [show k - c = (k - (c+1)) + 1 by omega, List.range'_succ]
      have hr : R1_ring 300 300 (k : Int) l [(c : Int)] (m : Int) = some (extB (aL l) k (m - 1) [c]) := ring_ev hl h8 hm 300 (m-1) [c] (by omega) (by simp) (by simp; omega)
      obtain ⟨y, y1, y2⟩ := Ring_L1 hl h8 hm1 hm g (c+1) (by omega) (by omega)
      rw [if_pos (by omega), hr, Option.bind_some, w64n (by omega), e, List.any_cons]
      cases e1 : extB (aL l) k (m - 1) [c]
      · rw [if_neg (by decide), Bool.false_or]
        exact ⟨y, y1, y2⟩
      · rw [if_pos rfl]
        exact ⟨_, rfl, rfl⟩
    · have : c = k := by omega
      subst this
      rw [if_neg (by omega), Nat.sub_self]
      exact ⟨_, rfl, rfl⟩
theorem Ring_ev {l : List (Int × Int)} (hl : l.length ≤ 24) {k : Nat} (h8 : k ≤ 8) {m : Nat} (hm1 : 1 ≤ m) (hm : m ≤ 8) : R1_Ring 300 (k : Int) l (m : Int) = some (ringB (aL l) k m) := by
  obtain ⟨x, x1, x2⟩ := Ring_L1 hl h8 hm1 hm 300 0 (by omega) (by omega)
  unfold R1_Ring
  rw [show R1_Ring_L1 300 (k : Int) l (m : Int) 300 0 = _ from x1, Option.bind_some]
  rw [Nat.sub_zero] at x2
  exact x2
theorem lastN_snoc (ws : List Nat) (b : Nat) : lastN (ws ++ [b]) = b := by
  unfold lastN
  rw [List.length_append, List.length_singleton, Nat.add_sub_cancel]
  simp [List.getD]
theorem head_snoc {ws : List Nat} (h : 1 ≤ ws.length) (b : Nat) : (ws ++ [b]).getD 0 0 = ws.getD 0 0 := by
  simp only [List.getD, List.getElem?_append_left (show 0 < ws.length by omega)]
theorem lastN_mem {ws : List Nat} (h : 1 ≤ ws.length) : lastN ws ∈ ws := by
  unfold lastN
  have : ws.getD (ws.length - 1) 0 = ws[ws.length - 1]'(by omega) := by simp [List.getD, show ws.length - 1 < ws.length by omega]
  rw [this]; exact List.getElem_mem _
theorem headN_mem {ws : List Nat} (h : 1 ≤ ws.length) : ws.getD 0 0 ∈ ws := by
  have : ws.getD 0 0 = ws[0]'(by omega) := by simp [List.getD, show 0 < ws.length by omega]
  rw [this]; exact List.getElem_mem _
theorem ext_sound {a : Nat → Nat → Bool} (hs : ∀ i j, a i j = a j i) (hirr : ∀ v, a v v = false) {k : Nat} {f : Nat → Nat} (hf : Proper a 2 k f) : ∀ (r : Nat) (ws : List Nat), 1 ≤ ws.length → (∀ x ∈ ws, x < k) → (f (lastN ws) + f (ws.getD 0 0)) % 2 = (ws.length - 1) % 2 → extB a k r ws = true → (ws.length + r) % 2 = 0
  | 0, ws, h1, hk, hp, h => by
    have e : a (lastN ws) (ws.getD 0 0) = true := h
    have l1 := hk _ (lastN_mem h1)
    have l2 := hk _ (headN_mem h1)
    have hne : lastN ws ≠ ws.getD 0 0 := fun q => by rw [q, hirr] at e; cases e
    have := hf.ne hs l1 l2 hne e
    have b1 := (hf _ l1).1
    have b2 := (hf _ l2).1
    omega
  | r+1, ws, h1, hk, hp, h => by
    obtain ⟨b, hb, h⟩ := List.any_eq_true.1 h
    have hbk : b < k := by have := List.mem_range'_1.1 hb; omega
    rw [Bool.and_eq_true, Bool.and_eq_true] at h
    have l1 := hk _ (lastN_mem h1)
    have hne : lastN ws ≠ b := fun q => by have := h.1.1; rw [q, hirr] at this; cases this
    have := hf.ne hs l1 hbk hne h.1.1
    have b1 := (hf _ l1).1
    have b2 := (hf _ hbk).1
    have l2 := hk _ (headN_mem h1)
    have b3 := (hf _ l2).1
    have ih := ext_sound hs hirr hf r (ws ++ [b]) (by rw [List.length_append, List.length_singleton]; omega) (fun x hx => by
      rcases List.mem_append.1 hx with hx | hx
      · exact hk x hx
      · rw [List.mem_singleton.1 hx]; exact hbk) (by rw [lastN_snoc, head_snoc h1, List.length_append, List.length_singleton]; omega) h.2
    rw [List.length_append, List.length_singleton] at ih
    omega
theorem ext_comp {a : Nat → Nat → Bool} {k n : Nat} {g : Nat → Nat} (h0 : g n = g 0) (h1 : ∀ i, i < n → a (g i) (g (i+1)) = true) (h2 : ∀ i, i < n → g i < k) (h3 : ∀ i j, i < n → j < n → g i = g j → i = j) : ∀ (r j : Nat), j + 1 + r = n → extB a k r ((List.range (j+1)).map g) = true
  | 0, j, h => by
    have e1 : lastN ((List.range (j+1)).map g) = g j := by rw [List.range_succ, List.map_append]; exact lastN_snoc _ _
    have e2 : ((List.range (j+1)).map g).getD 0 0 = g 0 := by simp [List.getD]
    show a (lastN ((List.range (j+1)).map g)) (((List.range (j+1)).map g).getD 0 0) = true
    rw [e1, e2, ← h0, show n = j + 1 by omega]
    exact h1 j (by omega)
  | r+1, j, h => by
    have e1 : lastN ((List.range (j+1)).map g) = g j := by rw [List.range_succ, List.map_append]; exact lastN_snoc _ _
    have ih := ext_comp h0 h1 h2 h3 r (j+1) (by omega)
    rw [List.range_succ, List.map_append] at ih
    refine List.any_eq_true.2 ⟨g (j+1), List.mem_range'_1.2 ⟨Nat.zero_le _, by have := h2 (j+1) (by omega); omega⟩, ?_⟩
    rw [e1, h1 j (by omega), Bool.true_and, Bool.and_eq_true]
    refine ⟨?_, ih⟩
    rw [Bool.not_eq_true', decide_eq_false_iff_not]
    intro hm
    obtain ⟨i, hi, e⟩ := List.mem_map.1 hm
    have := h3 i (j+1) (by have := List.mem_range.1 hi; omega) (by omega) e
    have := List.mem_range.1 hi; omega
theorem cc_L1 {l : List (Int × Int)} (hl : l.length ≤ 24) {k : Nat} (h8 : k ≤ 8) : ∀ (g m : Nat) (f : Bool), k + 2 < m + 2 * g → 1 ≤ m → m ≤ k + 2 →
    ∃ f' x, L3_ColorClique_L1 300 (k : Int) l g f (m : Int) = some (f', x) ∧ (f' = true ↔ f = true ∨ ∃ i, m + 2 * i ≤ k ∧ ringB (aL l) k (m + 2 * i) = true)
  | 0, m, f, h, hm, h2 => by omega
  | g+1, m, f, h, hm, h2 => by
    rw [L3_ColorClique_L1_s]
    by_cases hlt : m ≤ k
    · have hR := Ring_ev (l := l) hl h8 hm (show m ≤ 8 by omega)
      have hw : wrap64 ((m : Int) + 2) = ((m + 2 : Nat) : Int) := by rw [w64 (by omega) (by omega)]; rfl
      have step : ∀ b : Bool, (∃ f' x, L3_ColorClique_L1 300 (k : Int) l g b ((m + 2 : Nat) : Int) = some (f', x) ∧ (f' = true ↔ b = true ∨ ∃ i, m + 2 + 2 * i ≤ k ∧ ringB (aL l) k (m + 2 + 2 * i) = true)) := fun b => cc_L1 hl h8 g (m+2) b (by omega) (by omega) (by omega)
      rw [if_pos (by omega), hw]
      have fin : ∀ b : Bool, (b = true ↔ f = true ∨ ringB (aL l) k m = true) → ∃ f' x, L3_ColorClique_L1 300 (k : Int) l g b ((m + 2 : Nat) : Int) = some (f', x) ∧ (f' = true ↔ f = true ∨ ∃ i, m + 2 * i ≤ k ∧ ringB (aL l) k (m + 2 * i) = true) := fun b hb => by
        obtain ⟨f', x, q1, q2⟩ := step b
        refine ⟨f', x, q1, ?_⟩
        rw [q2, hb]
        constructor
        · rintro ((h | h) | ⟨i, h1, h2⟩)
          · exact .inl h
          · exact .inr ⟨0, by omega, h⟩
          · exact .inr ⟨i + 1, by omega, by rw [show m + 2 * (i + 1) = m + 2 + 2 * i by omega]; exact h2⟩
        · rintro (h | ⟨i, h1, h2⟩)
          · exact .inl (.inl h)
          · cases i with
            | zero => exact .inl (.inr h2)
            | succ i => exact .inr ⟨i, by omega, by rw [show m + 2 + 2 * i = m + 2 * (i + 1) by omega]; exact h2⟩
      cases f
      · rw [if_neg (by decide), hR, Option.bind_some]
        cases c : ringB (aL l) k m
        · rw [if_neg (by decide), Option.bind_some]; exact fin false (by simp [c])
        · rw [if_pos rfl, Option.bind_some]; exact fin true (by simp [c])
      · rw [if_pos rfl, Option.bind_some]; exact fin true (by simp)
    · rw [if_neg (by omega)]
      refine ⟨f, _, rfl, ?_⟩
      constructor
      · exact .inl
      · rintro (h | ⟨i, h1, _⟩)
        · exact h
        · omega
/-! ### the biggest set beside each other -/
theorem tg_L2 {l : List (Int × Int)} (hl : l.length ≤ 24) {m : List Nat} (hm : m.length ≤ 16) {i : Nat} (hi : i < m.length) : ∀ (g j : Nat), i < j + g → j ≤ i →
    (R3_Together_L2 300 l (rowN m) true (i : Int) g (j : Int) = some (.inr false) ∧ ∃ q, q < i ∧ aL l (m.getD i 0) (m.getD q 0) = false) ∨ ((∃ x, R3_Together_L2 300 l (rowN m) true (i : Int) g (j : Int) = some (.inl x)) ∧ ∀ q, j ≤ q → q < i → aL l (m.getD i 0) (m.getD q 0) = true)
  | 0, j, h, hj => by omega
  | g+1, j, h, hj => by
    rw [R3_Together_L2_s]
    by_cases hlt : j < i
    · have i1 : ix (rowN m) (i : Int) = some ((m.getD i 0 : Nat) : Int) := ix_map hi
      have i2 : ix (rowN m) (j : Int) = some ((m.getD j 0 : Nat) : Int) := ix_map (by omega)
      have hb : R1_Beside 300 l ((m.getD i 0 : Nat) : Int) ((m.getD j 0 : Nat) : Int) = some (aL l (m.getD i 0) (m.getD j 0)) := R1_Beside_ev _ _ (by omega) (by omega)
      rw [if_pos (by omega), i1, i2, Option.bind_some, Option.bind_some, hb, Option.bind_some, w64n (by omega)]
      cases c : aL l (m.getD i 0) (m.getD j 0)
      · exact .inl ⟨rfl, j, hlt, c⟩
      · rw [if_neg (by decide)]
        rcases tg_L2 hl hm hi g (j+1) (by omega) (by omega) with q | ⟨q, r⟩
        · exact .inl q
        · refine .inr ⟨q, fun z h1 h2 => ?_⟩
          by_cases e : z = j
          · subst e; exact c
          · exact r z (by omega) h2
    · rw [if_neg (by omega)]
      exact .inr ⟨⟨_, rfl⟩, fun z h1 h2 => by omega⟩
theorem tg_L1 {l : List (Int × Int)} (hl : l.length ≤ 24) {m : List Nat} (hm : m.length ≤ 16) : ∀ (g i : Nat), m.length < i + g → i ≤ m.length →
    (R3_Together_L1 300 l (rowN m) true g (i : Int) = some (.inr false) ∧ ∃ p q, p < m.length ∧ q < p ∧ aL l (m.getD p 0) (m.getD q 0) = false) ∨ ((∃ x, R3_Together_L1 300 l (rowN m) true g (i : Int) = some (.inl x)) ∧ ∀ p, i ≤ p → p < m.length → ∀ q, q < p → aL l (m.getD p 0) (m.getD q 0) = true)
  | 0, i, h, hi => by omega
  | g+1, i, h, hi => by
    have hlen : (rowN m).length = m.length := by unfold rowN; rw [List.length_map]
    rw [R3_Together_L1_s, hlen]
    by_cases hlt : i < m.length
    · rw [if_pos (by omega), w64n (by omega)]
      rcases tg_L2 hl hm hlt 300 0 (by omega) (by omega) with ⟨q, z, z1, z2⟩ | ⟨⟨x, q⟩, r⟩
      · rw [show R3_Together_L2 300 l (rowN m) true (i : Int) 300 0 = _ from q]
        exact .inl ⟨rfl, i, z, hlt, z1, z2⟩
      · rw [show R3_Together_L2 300 l (rowN m) true (i : Int) 300 0 = _ from q, Option.bind_some]
        dsimp only
        rcases tg_L1 hl hm g (i+1) (by omega) (by omega) with q | ⟨q, s⟩
        · exact .inl q
        · refine .inr ⟨q, fun p h1 h2 z hz => ?_⟩
          by_cases e : p = i
          · subst e; exact r z (Nat.zero_le _) hz
          · exact s p (by omega) h2 z hz
    · rw [if_neg (by omega)]
      exact .inr ⟨⟨_, rfl⟩, fun p h1 h2 => by omega⟩
theorem tg_ev {l : List (Int × Int)} (hl : l.length ≤ 24) {S : Nat} (hS : S < 65536) : ∃ b, R3_Together 300 l (rowN (memb S)) true = some b ∧ (b = true ↔ ClqS (aL l) S) := by
  have hm := memb_len16 S
  have hget : ∀ p, p < (memb S).length → S.testBit ((memb S).getD p 0) = true := fun p hp => by
    have : (memb S).getD p 0 = (memb S)[p] := by simp [List.getD, hp]
    rw [this]; exact (mem_memb hS).1 (List.getElem_mem _)
  unfold R3_Together
  rcases tg_L1 hl hm 300 0 (by omega) (by omega) with ⟨q, p, z, p1, z1, z2⟩ | ⟨⟨x, q⟩, r⟩
  · rw [show R3_Together_L1 300 l (rowN (memb S)) true 300 0 = _ from q]
    refine ⟨false, rfl, ?_⟩
    constructor
    · intro h; cases h
    · intro h
      have := h _ _ (hget p p1) (hget z (by omega)) (fun e => by have := getD_inj (membNd S) p1 (show z < _ by omega) e; omega)
      rw [z2] at this; cases this
  · rw [show R3_Together_L1 300 l (rowN (memb S)) true 300 0 = _ from q]
    refine ⟨true, rfl, ?_⟩
    constructor
    · intro _ u w hu hw hne
      obtain ⟨p, hp1, ep⟩ := List.getElem_of_mem ((mem_memb hS).2 hu)
      obtain ⟨z, hz1, ez⟩ := List.getElem_of_mem ((mem_memb hS).2 hw)
      have ep' : (memb S).getD p 0 = u := by rw [← ep]; simp [List.getD, hp1]
      have ez' : (memb S).getD z 0 = w := by rw [← ez]; simp [List.getD, hz1]
      have hpz : p ≠ z := fun e => by subst e; exact hne (by rw [← ep', ← ez'])
      rcases Nat.lt_or_gt_of_ne hpz with c | c
      · have := r z (Nat.zero_le _) hz1 p c
        rw [ep', ez', aL_sym] at this; exact this
      · have := r p (Nat.zero_le _) hp1 z c
        rw [ep', ez'] at this; exact this
    · intro _; rfl
theorem big_L1 {l : List (Int × Int)} (hl : l.length ≤ 24) {k : Nat} (h8 : k ≤ 8) : ∀ (g S W : Nat), 2 ^ k < S + g → S ≤ 2 ^ k →
    ∃ (W' : Nat) (x : Int), R3_Biggest_L1 300 (k : Int) l true g (W : Int) (S : Int) = some ((W' : Int), x) ∧ W ≤ W' ∧ (∀ T, S ≤ T → T < 2 ^ k → ClqS (aL l) T → (memb T).length ≤ W') ∧ (W' = W ∨ ∃ T, T < 2 ^ k ∧ ClqS (aL l) T ∧ (memb T).length = W')
  | 0, S, W, h, hS => by omega
  | g+1, S, W, h, hS => by
    have hp := Nat.pow_le_pow_right (n := 2) (by omega) h8
    rw [R3_Biggest_L1_s, R3_Power_ev k h8, Option.bind_some]
    by_cases hlt : S < 2 ^ k
    · obtain ⟨b, b1, b2⟩ := tg_ev (l := l) hl (S := S) (by omega)
      have hmm : (memb S).map Int.ofNat = rowN (memb S) := rfl
      have hlen : (rowN (memb S)).length = (memb S).length := by unfold rowN; rw [List.length_map]
      obtain ⟨W1, x1, p1, p2, p3, p4⟩ := big_L1 hl h8 g (S+1) W (by omega) (by omega)
      rw [if_pos (by omega), R3_Members_ev S (by omega), Option.bind_some, hmm, hlen, w64n (by omega)]
      by_cases c : W < (memb S).length
      · rw [if_pos (by omega), b1, Option.bind_some]
        cases b
        · rw [if_neg (by decide), Option.bind_some, if_neg (by decide)]
          refine ⟨W1, x1, p1, p2, fun T h1 h2 h3 => ?_, p4⟩
          by_cases e : T = S
          · subst e; have := b2.2 h3; cases this
          · exact p3 T (by omega) h2 h3
        · rw [if_pos rfl, Option.bind_some, if_pos rfl]
          obtain ⟨W2, x2, q1, q2, q3, q4⟩ := big_L1 hl h8 g (S+1) (memb S).length (by omega) (by omega)
          refine ⟨W2, x2, q1, by omega, fun T h1 h2 h3 => ?_, ?_⟩
          · by_cases e : T = S
            · subst e; exact q2
            · exact q3 T (by omega) h2 h3
          · rcases q4 with q4 | q4
            · exact .inr ⟨S, hlt, b2.1 rfl, q4.symm⟩
            · exact .inr q4
      · rw [if_neg (by omega), Option.bind_some, if_neg (by decide)]
        refine ⟨W1, x1, p1, p2, fun T h1 h2 h3 => ?_, p4⟩
        by_cases e : T = S
        · subst e; omega
        · exact p3 T (by omega) h2 h3
    · rw [if_neg (by omega)]
      exact ⟨W, _, rfl, Nat.le_refl _, fun T h1 h2 => by omega, .inl rfl⟩
theorem cc_says {n : Int} {l : List (Int × Int)} (hg : good n l) : L3_ColorClique 300 n l = some true := by
  unfold L3_ColorClique
  rw [colorFact_ev, Option.bind_some, if_pos rfl]
  by_cases he : errG n l = 0
  · obtain ⟨k, rfl, h1, h8, h24, hin, hne⟩ := errG_zero he
    have hp := Nat.pow_le_pow_right (n := 2) (by omega) h8
    have hpos := Nat.two_pow_pos k
    have hs := aL_sym l
    have hirr := aL_irr hne
    obtain ⟨W, x, w1, w2, w3, w4⟩ := big_L1 (l := l) h24 h8 300 0 0 (by omega) (by omega)
    have hBig : R3_Biggest 300 (k : Int) l true = some (W : Int) := by
      unfold R3_Biggest
      rw [show R3_Biggest_L1 300 (k : Int) l true 300 0 0 = _ from w1]; rfl
    have hchi1 := (chi_spec (aL l) h1).2.1
    have hchi8 := (chi_spec (aL l) h1).2.2.1
    have hWchi : W ≤ chi (aL l) k := by
      rcases w4 with e | ⟨T, t1, t2, t3⟩
      · omega
      · rw [← t3]; exact clq_chi hs h1 h8 t1 t2
    have hW1 : 1 ≤ W := by
      have h2k := Nat.pow_le_pow_right (n := 2) (by omega) h1
      have hb1 : ∀ u, (1 : Nat).testBit u = true → u = 0 := fun u hu => by
        have : u < 1 := bitLt (n := 1) (by omega) hu
        omega
      have := w3 1 (by omega) (by omega) (fun u w hu hw hne => by
        rw [hb1 u hu, hb1 w hw] at hne; exact absurd rfl hne)
      have e : (memb 1).length = 1 := by decide
      omega
    have hpeel : ∀ os, peelG (aL l) 300 [] (2 ^ k - 1) = some os → chi (aL l) k = W := fun os q => by
      have P : Peels (aL l) k := (peels_iff h8).1 ⟨os, q⟩
      obtain ⟨f, f1, f2⟩ := peel_paint hs hirr h8 P (fun S hS hc => w3 S (Nat.zero_le _) hS hc) 300 (2 ^ k - 1) (by rw [memb_full (by omega), List.length_range]; omega) (by omega)
      have hfb : ∀ u, u < k → (2 ^ k - 1).testBit u = true := fun u hu => by rw [Nat.testBit_two_pow_sub_one]; exact decide_eq_true hu
      have := chi_le h1 hW1 f (Proper.mk' (fun u hu => f1 u (hfb u hu)) fun u v hu hv _ e => f2 u v (hfb u hu) (hfb v hv) e)
      omega
    obtain ⟨od, z, o1, o2⟩ := cc_L1 (l := l) h24 h8 300 3 false (by omega) (by omega) (by omega)
    have hodd : (chi (aL l) k ≤ 2) ↔ od = false := by
      constructor
      · intro hc
        refine Bool.eq_false_iff.2 fun q => ?_
        rcases o2.1 q with q | ⟨i, i1, i2⟩
        · cases q
        · obtain ⟨f, hf⟩ := chi_has (aL l) h1
          have hf2 : Proper (aL l) 2 k f := fun i hi => ⟨Nat.lt_of_lt_of_le (hf i hi).1 hc, (hf i hi).2⟩
          obtain ⟨v, hv, hv2⟩ := List.any_eq_true.1 i2
          have hvk : v < k := by have := List.mem_range'_1.1 hv; omega
          have := ext_sound hs hirr hf2 _ [v] (by simp) (fun x hx => by rw [List.mem_singleton.1 hx]; exact hvk) (by show (f v + f v) % 2 = 0; omega) hv2
          rw [List.length_singleton] at this
          omega
      · intro hc
        have hno : ∀ n u, n % 2 = 1 → ¬ Wk (aL l) n u u := fun n u hpar hw => by
          obtain ⟨m, g, m1, m2, m3, m4, m5, m6, m7⟩ := odd_ring (fun u v h => aL_lt hin h) hirr ⟨n, u, hpar, hw⟩
          have : od = true := o2.2 (.inr ⟨(m - 3) / 2, by omega, by
            rw [show 3 + 2 * ((m - 3) / 2) = m by omega]
            refine List.any_eq_true.2 ⟨g 0, List.mem_range'_1.2 ⟨Nat.zero_le _, by have := m6 0 (by omega); omega⟩, ?_⟩
            exact ext_comp m4 m5 m6 m7 (m - 1) 0 (by omega)⟩)
          rw [hc] at this; cases this
        obtain ⟨f, hf⟩ := two_paint hs (k := k) hno
        exact chi_le h1 (by omega) f hf
    have hfin : ((L3_ColorClique_L1 300 (k : Int) l 300 false 3).bind fun o10 => ((if ((chi (aL l) k : Nat) : Int) ≤ 2 then some true else some false).bind fun b12 => (if o10.1 = true then some false else some true).bind fun b13 => if (b12 == b13) = true then some true else some false).bind fun b11 => some b11) = some true := by
      rw [show L3_ColorClique_L1 300 (k : Int) l 300 false 3 = _ from o1, Option.bind_some]
      dsimp only
      cases c : od
      · have := hodd.2 c
        rw [if_pos (by omega), Option.bind_some, if_neg (by decide)]; rfl
      · have : ¬ chi (aL l) k ≤ 2 := fun q => by have := hodd.1 q; rw [c] at this; cases this
        rw [if_neg (by omega), Option.bind_some, if_pos rfl]; rfl
    rw [least_ev h1 h8 h24 hin hne, Option.bind_some]
    dsimp only
    rw [if_neg (by decide), R1_Lines_big (by omega), he, Option.bind_some, if_neg (by decide), hBig, Option.bind_some]
    rcases peel_ev h1 h8 h24 hin hne with ⟨os, q1, q2⟩ | ⟨q1, q2⟩
    · have := hpeel os q1
      rw [q2, Option.bind_some]
      dsimp only
      rw [if_neg (by omega), if_pos (by decide), if_neg (by rw [bne_iff_ne]; omega), Option.bind_some, if_neg (by decide)]
      exact hfin
    · rw [q2, Option.bind_some]
      dsimp only
      rw [if_neg (by omega), if_neg (by decide), Option.bind_some, if_neg (by decide)]
      exact hfin
  · rw [least_bad hg he, Option.bind_some]
    dsimp only
    rw [if_pos (bne_iff_ne.2 he), if_pos (by decide)]; rfl
theorem colorClique_any (w : World) (n : Int) (hn : (Lit.int .i64 n).wf = true) (A : Option Addr) (cap : Nat) (l : List (Int × Int)) (hr : ReadsL w w.heap.size A l) (hl : l.length ≤ maxLen) :
    Calls Try.prog 6 #[.int .i64 n, .slice A l.length cap] w fun e w' => e = .returned (.bool true) ∧ Below w.heap.size w w' :=
  L3_ColorClique_ok w cap hr (cc_says ⟨hn, hl⟩)
end Go.Proofs.Ytlecmgdkoanghaa
