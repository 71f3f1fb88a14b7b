import Derived.Test.YtpcmofhmhggcoaaDoorK2
import Derived.Test.YtpcmofhmhggcoaaDoorSp1
import Derived.Test.YtpcmofhmhggcoaaDoorAl
/- what the document's Cliques and Biggest compute -/
set_option linter.all false
set_option maxRecDepth 100000
namespace Go.Proofs.YtpcmofhmhggcoaaDoor
open Go.RowKit Go.Shelf
open Pl hiding adj nodup_len_le maskOf maskOf_bit maskOf_lt memb_less
theorem behN_ev (o : List Nat) (c : Nat) (ho : o.length ≤ 100) : R1_Behind 300 (rowN o) (c : Int) = some (rowN (o ++ [c])) := by
  have hr : (rowN o).length = o.length := by unfold rowN; rw [List.length_map]
  unfold R1_Behind appL
  rw [if_pos (by rw [hr]; simp; omega), Option.bind_some]
  unfold app
  rw [if_pos (by rw [List.nil_append, hr]; omega), Option.bind_some, List.nil_append]
  unfold rowN; rw [List.map_append]; rfl
theorem mem_rowN {ws : List Nat} {b : Nat} : ((b : Int) ∈ rowN ws) ↔ b ∈ ws := by
  unfold rowN
  rw [List.mem_map]
  constructor
  · rintro ⟨x, hx, e⟩
    have : x = b := by omega
    rw [← this]; exact hx
  · intro h; exact ⟨b, h, rfl⟩
theorem rowN_len (m : List Nat) : (rowN m).length = m.length := by unfold rowN; rw [List.length_map]
theorem memb_len16 (S : Nat) : (memb S).length ≤ 16 := by unfold memb; have := List.length_filter_le (fun i => S.testBit i) (List.range 16); simpa using this
theorem tg_L2 {l : List (Int × Int)} (hl : l.length ≤ 24) (is : Bool) {m : List Nat} (hm : m.length ≤ 17) {i : Nat} (hi : i < m.length) : ∀ (g j : Nat), i < j + g → j ≤ i →
    (R3_Together_L2 300 l (rowN m) is (i : Int) g (j : Int) = some (.inr false) ∧ ∃ q, q < i ∧ aL l (m.getD i 0) (m.getD q 0) ≠ is) ∨ ((∃ x, R3_Together_L2 300 l (rowN m) is (i : Int) g (j : Int) = some (.inl x)) ∧ ∀ q, j ≤ q → q < i → aL l (m.getD i 0) (m.getD q 0) = is)
  | 0, j, h, hj => by omega
  | g+1, j, h, hj => by
    rw [R3_Together_L2_s]
    by_cases hlt : j < i
    · have i1 : ix (rowN m) (i : Int) = some ((m.getD i 0 : Nat) : Int) := ix_map hi
      have i2 : ix (rowN m) (j : Int) = some ((m.getD j 0 : Nat) : Int) := ix_map (by omega)
      have hb : R1_Beside 300 l ((m.getD i 0 : Nat) : Int) ((m.getD j 0 : Nat) : Int) = some (aL l (m.getD i 0) (m.getD j 0)) := R1_Beside_ev _ _ (by omega) (by omega)
      rw [if_pos (by omega), i1, i2, Option.bind_some, Option.bind_some, hb, Option.bind_some, w64n (by omega)]
      by_cases c : aL l (m.getD i 0) (m.getD j 0) = is
      · rw [if_neg (by rw [bne_iff_ne]; exact fun h => h c)]
        rcases tg_L2 hl is hm hi g (j+1) (by omega) (by omega) with q | ⟨q, r⟩
        · exact .inl q
        · refine .inr ⟨q, fun z h1 h2 => ?_⟩
          by_cases e : z = j
          · subst e; exact c
          · exact r z (by omega) h2
      · rw [if_pos (by rw [bne_iff_ne]; exact c)]
        exact .inl ⟨rfl, j, hlt, c⟩
    · rw [if_neg (by omega)]
      exact .inr ⟨⟨_, rfl⟩, fun z h1 h2 => by omega⟩
theorem tg_L1 {l : List (Int × Int)} (hl : l.length ≤ 24) (is : Bool) {m : List Nat} (hm : m.length ≤ 17) : ∀ (g i : Nat), m.length < i + g → i ≤ m.length →
    (R3_Together_L1 300 l (rowN m) is g (i : Int) = some (.inr false) ∧ ∃ p q, p < m.length ∧ q < p ∧ aL l (m.getD p 0) (m.getD q 0) ≠ is) ∨ ((∃ x, R3_Together_L1 300 l (rowN m) is g (i : Int) = some (.inl x)) ∧ ∀ p, i ≤ p → p < m.length → ∀ q, q < p → aL l (m.getD p 0) (m.getD q 0) = is)
  | 0, i, h, hi => by omega
  | g+1, i, h, hi => by
    rw [R3_Together_L1_s, rowN_len]
    by_cases hlt : i < m.length
    · rw [if_pos (by omega), w64n (by omega)]
      rcases tg_L2 hl is hm hlt 300 0 (by omega) (by omega) with ⟨q, z, z1, z2⟩ | ⟨⟨x, q⟩, r⟩
      · rw [show R3_Together_L2 300 l (rowN m) is (i : Int) 300 0 = _ from q]
        exact .inl ⟨rfl, i, z, hlt, z1, z2⟩
      · rw [show R3_Together_L2 300 l (rowN m) is (i : Int) 300 0 = _ from q, Option.bind_some]
        dsimp only
        rcases tg_L1 hl is hm g (i+1) (by omega) (by omega) with q | ⟨q, s⟩
        · exact .inl q
        · refine .inr ⟨q, fun p h1 h2 z hz => ?_⟩
          by_cases e : p = i
          · subst e; exact r z (Nat.zero_le _) hz
          · exact s p (by omega) h2 z hz
    · rw [if_neg (by omega)]
      exact .inr ⟨⟨_, rfl⟩, fun p h1 h2 => by omega⟩
theorem getD_mem {m : List Nat} {p : Nat} (h : p < m.length) : m.getD p 0 ∈ m := by
  have : m.getD p 0 = m[p] := by simp [List.getD, h]
  rw [this]; exact List.getElem_mem _
theorem tg_ev {l : List (Int × Int)} (hl : l.length ≤ 24) (is : Bool) {m : List Nat} (hm : m.length ≤ 17) (hn : m.Nodup) : ∃ b, R3_Together 300 l (rowN m) is = some b ∧ (b = true ↔ ∀ u ∈ m, ∀ v ∈ m, u ≠ v → aL l u v = is) := by
  unfold R3_Together
  rcases tg_L1 hl is hm 300 0 (by omega) (by omega) with ⟨q, p, z, p1, z1, z2⟩ | ⟨⟨x, q⟩, r⟩
  · rw [show R3_Together_L1 300 l (rowN m) is 300 0 = _ from q]
    refine ⟨false, rfl, ?_⟩
    constructor
    · intro h; cases h
    · intro h
      exact absurd (h _ (getD_mem p1) _ (getD_mem (show z < m.length by omega)) (fun e => by have := getD_inj hn p1 (show z < _ by omega) e; omega)) z2
  · rw [show R3_Together_L1 300 l (rowN m) is 300 0 = _ from q]
    refine ⟨true, rfl, ?_⟩
    constructor
    · intro _ u hu w hw hne
      obtain ⟨p, hp1, ep⟩ := List.getElem_of_mem hu
      obtain ⟨z, hz1, ez⟩ := List.getElem_of_mem hw
      have ep' : m.getD p 0 = u := by rw [← ep]; simp [List.getD, hp1]
      have ez' : m.getD z 0 = w := by rw [← ez]; simp [List.getD, hz1]
      have hpz : p ≠ z := fun e => by subst e; exact hne (by rw [← ep', ← ez'])
      rcases Nat.lt_or_gt_of_ne hpz with c | c
      · have := r z (Nat.zero_le _) hz1 p c
        rw [ep', ez', aL_sym] at this; exact this
      · have := r p (Nat.zero_le _) hp1 z c
        rw [ep', ez'] at this; exact this
    · intro _; rfl
/-- all of S are beside each other (none are) -/
def ClqI (l : List (Int × Int)) (is : Bool) (S : Nat) : Prop := ∀ u v, S.testBit u = true → S.testBit v = true → u ≠ v → aL l u v = is
theorem tgm_ev {l : List (Int × Int)} (hl : l.length ≤ 24) (is : Bool) {S : Nat} (hS : S < 65536) : ∃ b, R3_Together 300 l (rowN (memb S)) is = some b ∧ (b = true ↔ ClqI l is S) := by
  obtain ⟨b, b1, b2⟩ := tg_ev hl is (m := memb S) (by have := memb_len16 S; omega) (membNd S)
  refine ⟨b, b1, b2.trans ?_⟩
  constructor
  · intro h u v hu hv hne; exact h u ((mem_memb hS).2 hu) v ((mem_memb hS).2 hv) hne
  · intro h u hu v hv hne; exact h u v ((mem_memb hS).1 hu) ((mem_memb hS).1 hv) hne
theorem big_L1 {l : List (Int × Int)} (hl : l.length ≤ 24) (is : Bool) {k : Nat} (h8 : k ≤ 8) : ∀ (g S W : Nat), 2 ^ k < S + g → S ≤ 2 ^ k →
    ∃ (W' : Nat) (x : Int), R3_Biggest_L1 300 (k : Int) l is g (W : Int) (S : Int) = some ((W' : Int), x) ∧ W ≤ W' ∧ (∀ T, S ≤ T → T < 2 ^ k → ClqI l is T → (memb T).length ≤ W') ∧ (W' = W ∨ ∃ T, T < 2 ^ k ∧ ClqI l is T ∧ (memb T).length = W')
  | 0, S, W, h, hS => by omega
  | g+1, S, W, h, hS => by
    have hp := Nat.pow_le_pow_right (n := 2) (by omega) h8
    rw [R3_Biggest_L1_s, R3_Power_ev k h8, Option.bind_some]
    by_cases hlt : S < 2 ^ k
    · obtain ⟨b, b1, b2⟩ := tgm_ev (l := l) hl is (S := S) (by omega)
      have hmm : (memb S).map Int.ofNat = rowN (memb S) := rfl
      have hlen : (rowN (memb S)).length = (memb S).length := by unfold rowN; rw [List.length_map]
      obtain ⟨W1, x1, p1, p2, p3, p4⟩ := big_L1 hl is h8 g (S+1) W (by omega) (by omega)
      rw [if_pos (by omega), R3_Members_ev S (by omega), Option.bind_some, hmm, hlen, w64n (by omega)]
      by_cases c : W < (memb S).length
      · rw [if_pos (by omega), b1, Option.bind_some]
        cases b
        · rw [if_neg (by decide), Option.bind_some, if_neg (by decide)]
          refine ⟨W1, x1, p1, p2, fun T h1 h2 h3 => ?_, p4⟩
          by_cases e : T = S
          · subst e; have := b2.2 h3; cases this
          · exact p3 T (by omega) h2 h3
        · rw [if_pos rfl, Option.bind_some, if_pos rfl]
          obtain ⟨W2, x2, q1, q2, q3, q4⟩ := big_L1 hl is h8 g (S+1) (memb S).length (by omega) (by omega)
          refine ⟨W2, x2, q1, by omega, fun T h1 h2 h3 => ?_, ?_⟩
          · by_cases e : T = S
            · subst e; exact q2
            · exact q3 T (by omega) h2 h3
          · rcases q4 with q4 | q4
            · exact .inr ⟨S, hlt, b2.1 rfl, q4.symm⟩
            · exact .inr q4
      · rw [if_neg (by omega), Option.bind_some, if_neg (by decide)]
        refine ⟨W1, x1, p1, p2, fun T h1 h2 h3 => ?_, p4⟩
        by_cases e : T = S
        · subst e; omega
        · exact p3 T (by omega) h2 h3
    · rw [if_neg (by omega)]
      exact ⟨W, _, rfl, Nat.le_refl _, fun T h1 h2 => by omega, .inl rfl⟩
/-! ### Cliques -/
theorem cl_L2 {l : List (Int × Int)} (hl : l.length ≤ 24) {k : Nat} (h8 : k ≤ 8) {ws : List Nat} (hw : ws.length ≤ 16) (hn : ws.Nodup) : ∀ (g i : Nat) (c : Bool), k < i + g → i ≤ k →
    ∃ (c' : Bool) (x : Int), R3_Cliques_L2 300 (k : Int) l (rowN ws) g c (i : Int) = some (c', x) ∧ (c' = true ↔ c = true ∧ ∀ v, i ≤ v → v < k → v ∉ ws → ¬ ∀ u ∈ ws ++ [v], ∀ w ∈ ws ++ [v], u ≠ w → aL l u w = true)
  | 0, i, c, h, hi => by omega
  | g+1, i, c, h, hi => by
    rw [R3_Cliques_L2_s]
    by_cases hlt : i < k
    · cases c
      · rw [if_pos (by omega), if_neg (by decide), Option.bind_some, if_neg (by decide)]
        exact ⟨false, _, rfl, by simp⟩
      · rw [if_pos (by omega), if_pos rfl, Option.bind_some, if_pos rfl, R1_Has_ev _ (by rw [rowN_len]; omega) (by rw [rowN_len]; omega), Option.bind_some, w64n (by omega)]
        by_cases hm : i ∈ ws
        · rw [decide_eq_true (mem_rowN.2 hm), if_pos rfl, Option.bind_some, if_neg (by decide)]
          obtain ⟨c', x, q1, q2⟩ := cl_L2 hl h8 hw hn g (i+1) true (by omega) (by omega)
          refine ⟨c', x, q1, q2.trans ?_⟩
          constructor
          · rintro ⟨_, r⟩
            refine ⟨rfl, fun v h1 h2 h3 => r v ?_ h2 h3⟩
            have : v ≠ i := fun e => h3 (e ▸ hm)
            omega
          · rintro ⟨_, r⟩; exact ⟨rfl, fun v h1 h2 h3 => r v (by omega) h2 h3⟩
        · rw [decide_eq_false (fun h => hm (mem_rowN.1 h)), if_neg (by decide), behN_ev _ _ (by omega), Option.bind_some]
          obtain ⟨b, b1, b2⟩ := tg_ev hl true (m := ws ++ [i]) (by simp; omega) (by
            rw [List.nodup_append]; refine ⟨hn, by simp, fun a ha b hb => ?_⟩
            simp at hb; subst hb; exact fun e => hm (e ▸ ha))
          rw [b1, Option.bind_some]
          cases b
          · rw [if_neg (by decide), Option.bind_some, if_neg (by decide)]
            obtain ⟨c', x, q1, q2⟩ := cl_L2 hl h8 hw hn g (i+1) true (by omega) (by omega)
            refine ⟨c', x, q1, q2.trans ?_⟩
            constructor
            · rintro ⟨_, r⟩
              refine ⟨rfl, fun v h1 h2 h3 => ?_⟩
              by_cases e : v = i
              · subst e; exact fun h => Bool.false_ne_true (b2.2 h)
              · exact r v (by omega) h2 h3
            · rintro ⟨_, r⟩; exact ⟨rfl, fun v h1 h2 h3 => r v (by omega) h2 h3⟩
          · rw [if_pos rfl, Option.bind_some, if_pos rfl]
            obtain ⟨c', x, q1, q2⟩ := cl_L2 hl h8 hw hn g (i+1) false (by omega) (by omega)
            refine ⟨c', x, q1, q2.trans ?_⟩
            constructor
            · rintro ⟨h, _⟩; cases h
            · rintro ⟨_, r⟩; exact absurd (b2.1 rfl) (r i (Nat.le_refl _) hlt hm)
    · rw [if_neg (by omega), Option.bind_some, if_neg (by decide)]
      exact ⟨c, _, rfl, by constructor; exact fun h => ⟨h, fun v h1 h2 => by omega⟩; exact fun h => h.1⟩
/-- a clique that no point can join -/
def MaxP (l : List (Int × Int)) (k T : Nat) : Prop := ClqI l true T ∧ ∀ v, v < k → T.testBit v = false → ∃ u, T.testBit u = true ∧ aL l u v = false
theorem max_iff {l : List (Int × Int)} {k T : Nat} (hT : T < 65536) (h8 : k ≤ 8) : MaxP l k T ↔ ClqI l true T ∧ ∀ v, 0 ≤ v → v < k → v ∉ memb T → ¬ ∀ u ∈ memb T ++ [v], ∀ w ∈ memb T ++ [v], u ≠ w → aL l u w = true := by
  refine and_congr_right fun hc => ?_
  constructor
  · intro h v _ hv hm hall
    have : T.testBit v = false := by
      cases e : T.testBit v
      · rfl
      · exact absurd ((mem_memb hT).2 e) hm
    obtain ⟨u, u1, u2⟩ := h v hv this
    have := hall u (List.mem_append_left _ ((mem_memb hT).2 u1)) v (by simp) (fun e => by subst e; rw [u1] at this; cases this)
    rw [u2] at this; cases this
  · intro h v hv hf
    apply Classical.byContradiction
    intro hno
    have hno' : ∀ u, T.testBit u = true → aL l u v = true := fun u hu => by
      cases e : aL l u v
      · exact absurd ⟨u, hu, e⟩ hno
      · rfl
    refine h v (Nat.zero_le _) hv (fun hm => by rw [(mem_memb hT).1 hm] at hf; cases hf) fun u hu w hw hne => ?_
    rcases List.mem_append.1 hu with hu | hu <;> rcases List.mem_append.1 hw with hw | hw
    · exact hc u w ((mem_memb hT).1 hu) ((mem_memb hT).1 hw) hne
    · rw [List.mem_singleton.1 hw]; exact hno' u ((mem_memb hT).1 hu)
    · rw [List.mem_singleton.1 hu, aL_sym]; exact hno' w ((mem_memb hT).1 hw)
    · rw [List.mem_singleton.1 hu, List.mem_singleton.1 hw] at hne; exact absurd rfl hne
theorem cl_L1 {l : List (Int × Int)} (hl : l.length ≤ 24) {k : Nat} (h8 : k ≤ 8) : ∀ (g S : Nat) (As : List Nat), 2 ^ k < S + g → S ≤ 2 ^ k → As.length ≤ S →
    ∃ (Bs : List Nat) (x : Int), R3_Cliques_L1 300 (k : Int) l g (As.map fun m => rowN (memb m)) (S : Int) = some ((As ++ Bs).map fun m => rowN (memb m), x) ∧ (∀ T, T ∈ Bs ↔ S ≤ T ∧ T < 2 ^ k ∧ MaxP l k T) ∧ Bs.Pairwise (· < ·) ∧ (As ++ Bs).length ≤ 2 ^ k
  | 0, S, As, h, hS, hA => by omega
  | g+1, S, As, h, hS, hA => by
    have hp := Nat.pow_le_pow_right (n := 2) (by omega) h8
    rw [R3_Cliques_L1_s, R3_Power_ev k h8, Option.bind_some]
    by_cases hlt : S < 2 ^ k
    · obtain ⟨b, b1, b2⟩ := tgm_ev (l := l) hl true (S := S) (by omega)
      have hmm : (memb S).map Int.ofNat = rowN (memb S) := rfl
      obtain ⟨c', x, q1, q2⟩ := cl_L2 (l := l) hl h8 (ws := memb S) (memb_len16 S) (membNd S) 300 0 b (by omega) (by omega)
      have hc : c' = true ↔ MaxP l k S := by rw [q2, max_iff (by omega) h8, b2]
      rw [if_pos (by omega), R3_Members_ev S (by omega), Option.bind_some, hmm, b1, Option.bind_some, show R3_Cliques_L2 300 (k : Int) l (rowN (memb S)) 300 b 0 = _ from q1, Option.bind_some, w64n (by omega)]
      dsimp only
      cases c'
      · rw [if_neg (by decide)]
        obtain ⟨Bs, y, r1, r2, r3, r4⟩ := cl_L1 hl h8 g (S+1) As (by omega) (by omega) (by omega)
        refine ⟨Bs, y, r1, fun T => (r2 T).trans ?_, r3, r4⟩
        constructor
        · rintro ⟨h1, h2, h3⟩; exact ⟨by omega, h2, h3⟩
        · rintro ⟨h1, h2, h3⟩
          have : T ≠ S := fun e => by subst e; have := hc.2 h3; cases this
          exact ⟨by omega, h2, h3⟩
      · rw [if_pos rfl]
        obtain ⟨Bs, y, r1, r2, r3, r4⟩ := cl_L1 hl h8 g (S+1) (As ++ [S]) (by omega) (by omega) (by simp; omega)
        have ha : app (As.map fun m => rowN (memb m)) (rowN (memb S)) = some ((As ++ [S]).map fun m => rowN (memb m)) := by
          unfold app; rw [if_pos (by rw [List.length_map]; omega), List.map_append]; rfl
        rw [ha, Option.bind_some]
        refine ⟨S :: Bs, y, ?_, fun T => ?_, List.pairwise_cons.2 ⟨fun T hT => ?_, r3⟩, ?_⟩
        · rw [r1, List.append_assoc]; rfl
        · rw [List.mem_cons, r2]
          constructor
          · rintro (rfl | ⟨h1, h2, h3⟩)
            · exact ⟨Nat.le_refl _, hlt, hc.1 rfl⟩
            · exact ⟨by omega, h2, h3⟩
          · rintro ⟨h1, h2, h3⟩
            by_cases e : T = S
            · exact .inl e
            · exact .inr ⟨by omega, h2, h3⟩
        · have := (r2 T).1 hT; omega
        · simpa using r4
    · rw [if_neg (by omega)]
      refine ⟨[], _, by rw [List.append_nil], fun T => ?_, .nil, by simp; omega⟩
      constructor
      · intro h; cases h
      · rintro ⟨h1, h2, _⟩; omega
/-! ### the selection -/
theorem ahead_L1 {a b : List Nat} (ha : a.length ≤ 16) (hb : b.length ≤ 16) : ∀ (g i : Nat), a.length < i + g → i ≤ a.length → i ≤ b.length →
    R3_Ahead_L1 300 (rowN a) (rowN b) g (i : Int) = some (.inr (aheadN (a.drop i) (b.drop i))) ∨ (∃ x, R3_Ahead_L1 300 (rowN a) (rowN b) g (i : Int) = some (.inl x)) ∧ aheadN (a.drop i) (b.drop i) = decide (a.length < b.length)
  | 0, i, h, h1, h2 => by omega
  | g+1, i, h, h1, h2 => by
    rw [R3_Ahead_L1_s, rowN_len, rowN_len]
    by_cases hla : i < a.length
    · by_cases hlb : i < b.length
      · have i1 : ix (rowN a) (i : Int) = some ((a.getD i 0 : Nat) : Int) := ix_map hla
        have i2 : ix (rowN b) (i : Int) = some ((b.getD i 0 : Nat) : Int) := ix_map hlb
        have d1 : a.drop i = a.getD i 0 :: a.drop (i+1) := by rw [List.drop_eq_getElem_cons hla]; simp [List.getD, hla]
        have d2 : b.drop i = b.getD i 0 :: b.drop (i+1) := by rw [List.drop_eq_getElem_cons hlb]; simp [List.getD, hlb]
        rw [if_pos (by omega), if_pos (by omega), Option.bind_some, if_pos rfl, i1, i2, Option.bind_some, Option.bind_some, d1, d2, aheadN]
        by_cases e : a.getD i 0 = b.getD i 0
        · rw [if_neg (by rw [bne_iff_ne]; omega), w64n (by omega), if_pos e]
          exact ahead_L1 ha hb g (i+1) (by omega) (by omega) (by omega)
        · rw [if_pos (by rw [bne_iff_ne]; omega), Option.bind_some, Option.bind_some, if_neg e]
          left
          by_cases c : a.getD i 0 < b.getD i 0
          · rw [if_pos (by omega), Option.bind_some, decide_eq_true c]
          · rw [if_neg (by omega), Option.bind_some, decide_eq_false c]
      · rw [if_pos (by omega), if_neg (by omega), Option.bind_some, if_neg (by decide)]
        refine .inr ⟨⟨_, rfl⟩, ?_⟩
        rw [List.drop_eq_nil_of_le (show b.length ≤ i by omega), List.drop_eq_getElem_cons hla, aheadN, decide_eq_false (by omega)]
    · rw [if_neg (by omega), Option.bind_some, if_neg (by decide)]
      refine .inr ⟨⟨_, rfl⟩, ?_⟩
      rw [List.drop_eq_nil_of_le (show a.length ≤ i by omega)]
      by_cases hlb : i < b.length
      · rw [List.drop_eq_getElem_cons hlb, aheadN, decide_eq_true (by omega)]
      · rw [List.drop_eq_nil_of_le (show b.length ≤ i by omega), aheadN, decide_eq_false (by omega)]
theorem ahead_ev {a b : List Nat} (ha : a.length ≤ 16) (hb : b.length ≤ 16) : R3_Ahead 300 (rowN a) (rowN b) = some (aheadN a b) := by
  unfold R3_Ahead
  have h := ahead_L1 ha hb 300 0 (by omega) (by omega) (by omega)
  rw [List.drop_zero, List.drop_zero] at h
  rcases h with h | ⟨⟨x, h⟩, h2⟩
  · rw [show R3_Ahead_L1 300 (rowN a) (rowN b) 300 0 = _ from h]; rfl
  · rw [show R3_Ahead_L1 300 (rowN a) (rowN b) 300 0 = _ from h, Option.bind_some, rowN_len, rowN_len, h2]
    dsimp only
    by_cases c : a.length < b.length
    · rw [if_pos (by omega), Option.bind_some, decide_eq_true c]
    · rw [if_neg (by omega), Option.bind_some, decide_eq_false c]
section
variable {As : List (List Nat)} (hA : ∀ a ∈ As, a.length ≤ 16) (hnd : As.Nodup) (hlen : As.length ≤ 256)
def rowsN (As : List (List Nat)) : List (List Int) := As.map rowN
def rA (As : List (List Nat)) (p : Nat) : List Nat := As.getD p []
include hA hnd hlen
theorem rA_mem {p : Nat} (h : p < As.length) : rA As p ∈ As := by
  have : rA As p = As[p] := by unfold rA; simp [List.getD, h]
  rw [this]; exact List.getElem_mem _
theorem rA_inj {p q : Nat} (hp : p < As.length) (hq : q < As.length) (e : rA As p = rA As q) : p = q := by
  have e1 : rA As p = As[p] := by unfold rA; simp [List.getD, hp]
  have e2 : rA As q = As[q] := by unfold rA; simp [List.getD, hq]
  rw [e1, e2] at e
  exact (List.getElem_inj hnd).1 e
theorem ix_rows {p : Nat} (h : p < As.length) : ix (rowsN As) (p : Int) = some (rowN (rA As p)) := by
  have := ix_at (l := rowsN As) (i := p) [] (by unfold rowsN; rw [List.length_map]; exact h)
  rw [this]; unfold rowsN rA; simp [List.getD, h]
/-- the best one of those below i that are not used -/
def Best (As : List (List Nat)) (used : List Bool) (i : Nat) (b : Int) : Prop :=
  (b = -1 ∧ ∀ q, q < i → used.getD q false = true) ∨ ∃ p : Nat, p < i ∧ b = (p : Int) ∧ used.getD p false = false ∧ ∀ q, q < i → used.getD q false = false → q ≠ p → aheadN (rA As p) (rA As q) = true
theorem sel_L4 {used : List Bool} (hu : used.length = As.length) : ∀ (g i : Nat) (b : Int), As.length < i + g → i ≤ As.length → Best As used i b →
    ∃ (b' x : Int), R3_Cliques_L4 300 (rowsN As) used g b (i : Int) = some (b', x) ∧ Best As used As.length b'
  | 0, i, b, h, hi, hb => by omega
  | g+1, i, b, h, hi, hb => by
    have hrl : (rowsN As).length = As.length := by unfold rowsN; rw [List.length_map]
    rw [R3_Cliques_L4_s, hrl]
    by_cases hlt : i < As.length
    · have iu : ix used (i : Int) = some (used.getD i false) := ix_at false (by omega)
      rw [if_pos (by omega), iu, Option.bind_some, w64n (by omega)]
      cases hui : used.getD i false
      · rw [if_neg (by decide)]
        rcases hb with ⟨rfl, hb⟩ | ⟨p, p1, rfl, p2, p3⟩
        · rw [if_pos (by decide), Option.bind_some, if_pos rfl]
          refine sel_L4 hu g (i+1) _ (by omega) (by omega) (.inr ⟨i, by omega, rfl, hui, fun q h1 h2 h3 => ?_⟩)
          have := hb q (by omega); rw [h2] at this; cases this
        · rw [if_neg (by omega), ix_rows hA hnd hlen hlt, ix_rows hA hnd hlen (show p < As.length by omega), Option.bind_some, Option.bind_some, ahead_ev (hA _ (rA_mem hA hnd hlen hlt)) (hA _ (rA_mem hA hnd hlen (by omega))), Option.bind_some]
          cases hah : aheadN (rA As i) (rA As p)
          · rw [if_neg (by decide), Option.bind_some, if_neg (by decide)]
            refine sel_L4 hu g (i+1) _ (by omega) (by omega) (.inr ⟨p, by omega, rfl, p2, fun q h1 h2 h3 => ?_⟩)
            by_cases e : q = i
            · subst e
              rcases ahead_tri (rA As p) (rA As q) with h | h | h
              · exact h
              · exact absurd (rA_inj hA hnd hlen (by omega) (by omega) h) (fun e => h3 e.symm)
              · rw [hah] at h; cases h
            · exact p3 q (by omega) h2 h3
          · rw [if_pos rfl, Option.bind_some, if_pos rfl]
            refine sel_L4 hu g (i+1) _ (by omega) (by omega) (.inr ⟨i, by omega, rfl, hui, fun q h1 h2 h3 => ?_⟩)
            by_cases e : q = p
            · subst e; exact hah
            · exact ahead_trans hah (p3 q (by omega) h2 e)
      · rw [if_pos rfl, Option.bind_some, if_neg (by decide)]
        refine sel_L4 hu g (i+1) b (by omega) (by omega) ?_
        rcases hb with ⟨rfl, hb⟩ | ⟨p, p1, rfl, p2, p3⟩
        · refine .inl ⟨rfl, fun q hq => ?_⟩
          by_cases e : q = i
          · subst e; exact hui
          · exact hb q (by omega)
        · refine .inr ⟨p, by omega, rfl, p2, fun q h1 h2 h3 => ?_⟩
          by_cases e : q = i
          · subst e; rw [hui] at h2; cases h2
          · exact p3 q (by omega) h2 h3
    · rw [if_neg (by omega)]
      have : i = As.length := by omega
      subst this
      exact ⟨b, _, rfl, hb⟩
structure SelI (As : List (List Nat)) (used : List Bool) (os : List Nat) : Prop where
  nd : os.Nodup
  lt : ∀ x ∈ os, x < As.length
  us : ∀ q, q < As.length → (used.getD q false = true ↔ q ∈ os)
  pw : os.Pairwise fun p q => aheadN (rA As p) (rA As q) = true
  ah : ∀ p ∈ os, ∀ q, q < As.length → q ∉ os → aheadN (rA As p) (rA As q) = true
theorem sel_L3 : ∀ (g k : Nat) (os : List Nat) (used : List Bool), As.length < k + g → k ≤ As.length → os.length = k → used.length = As.length → SelI As used os →
    ∃ (os' : List Nat) (u : List Bool) (x : Int), R3_Cliques_L3 300 (rowsN As) g (os.map fun p => rowN (rA As p)) used (k : Int) = some (os'.map fun p => rowN (rA As p), u, x) ∧ os'.length = As.length ∧ SelI As u os'
  | 0, k, os, used, h, hk, ho, hu, hI => by omega
  | g+1, k, os, used, h, hk, ho, hu, hI => by
    have hrl : (rowsN As).length = As.length := by unfold rowsN; rw [List.length_map]
    rw [R3_Cliques_L3_s, hrl]
    by_cases hlt : k < As.length
    · obtain ⟨b, x, q1, q2⟩ := sel_L4 hA hnd hlen hu 300 0 (-1) (by omega) (by omega) (.inl ⟨rfl, fun q hq => by omega⟩)
      rw [if_pos (by omega), show R3_Cliques_L4 300 (rowsN As) used 300 (-1) 0 = _ from q1, Option.bind_some]
      dsimp only
      rcases q2 with ⟨rfl, hall⟩ | ⟨p, p1, rfl, p2, p3⟩
      · have := nodup_len_le (l := List.range As.length) (l' := os) List.nodup_range (fun q hq => (hI.us q (List.mem_range.1 hq)).1 (hall q (List.mem_range.1 hq)))
        rw [List.length_range] at this; omega
      · have hpo : p ∉ os := fun hm => by rw [(hI.us p p1).2 hm] at p2; cases p2
        have hunused : ∀ q, q < As.length → q ∉ os → used.getD q false = false := fun q hq hm => by
          cases e : used.getD q false
          · rfl
          · exact absurd ((hI.us q hq).1 e) hm
        have ha : app (os.map fun p => rowN (rA As p)) (rowN (rA As p)) = some ((os ++ [p]).map fun p => rowN (rA As p)) := by
          unfold app; rw [if_pos (by rw [List.length_map]; omega), List.map_append]; rfl
        rw [st_nat (by omega), Option.bind_some, ix_rows hA hnd hlen p1, Option.bind_some, ha, Option.bind_some, w64n (by omega)]
        refine sel_L3 g (k+1) (os ++ [p]) (used.set p true) (by omega) (by omega) (by simp; omega) (by rw [List.length_set]; exact hu) ⟨?_, ?_, ?_, ?_, ?_⟩
        · rw [List.nodup_append]
          refine ⟨hI.nd, by simp, fun a ham b hb => ?_⟩
          simp at hb; subst hb; exact fun e => hpo (by rw [← e]; assumption)
        · intro x hx
          rcases List.mem_append.1 hx with hx | hx
          · exact hI.lt x hx
          · rw [List.mem_singleton.1 hx]; exact p1
        · intro q hq
          rw [getD_set used p q true false (by omega), List.mem_append, List.mem_singleton]
          by_cases e : q = p
          · rw [if_pos e]; exact ⟨fun _ => .inr e, fun _ => rfl⟩
          · rw [if_neg e, hI.us q hq]; exact ⟨.inl, fun h => h.resolve_right e⟩
        · rw [List.pairwise_append]
          refine ⟨hI.pw, List.pairwise_singleton _ _, fun a ha b hb => ?_⟩
          rw [List.mem_singleton.1 hb]; exact hI.ah a ha p p1 hpo
        · intro a ha q hq hqo
          rw [List.mem_append, List.mem_singleton] at hqo
          rcases List.mem_append.1 ha with ha | ha
          · exact hI.ah a ha q hq (fun h => hqo (.inl h))
          · rw [List.mem_singleton.1 ha]
            exact p3 q hq (hunused q hq (fun h => hqo (.inl h))) (fun h => hqo (.inr h))
    · rw [if_neg (by omega)]
      have : k = As.length := by omega
      exact ⟨os, used, _, rfl, by omega, hI⟩
theorem sel_ev : ∃ (Bs : List (List Nat)) (u : List Bool) (x : Int), R3_Cliques_L3 300 (rowsN As) 300 [] (List.replicate As.length false) 0 = some (rowsN Bs, u, x) ∧ Bs.Pairwise (fun a b => aheadN a b = true) ∧ ∀ a, a ∈ Bs ↔ a ∈ As := by
  obtain ⟨os, u, x, q1, q2, hI⟩ := sel_L3 hA hnd hlen 300 0 [] (List.replicate As.length false) (by omega) (by omega) rfl (by simp) ⟨.nil, (fun x hx => by cases hx), (fun q hq => by simp [List.getD, List.getElem?_replicate, hq]), .nil, (fun p hp => by cases hp)⟩
  refine ⟨os.map (rA As), u, x, ?_, ?_, fun a => ?_⟩
  · rw [show R3_Cliques_L3 300 (rowsN As) 300 [] (List.replicate As.length false) 0 = _ from q1]
    unfold rowsN; rw [List.map_map]; rfl
  · rw [List.pairwise_map]; exact hI.pw
  · rw [List.mem_map]
    constructor
    · rintro ⟨p, hp, rfl⟩; exact rA_mem hA hnd hlen (hI.lt p hp)
    · intro ha
      obtain ⟨p, hp, e⟩ := List.getElem_of_mem ha
      refine ⟨p, ?_, by rw [← e]; unfold rA; simp [List.getD, hp]⟩
      apply Classical.byContradiction
      intro hm
      have := nodup_len_le (l := p :: os) (l' := List.range As.length) (List.nodup_cons.2 ⟨hm, hI.nd⟩) (fun y hy => by
        rcases List.mem_cons.1 hy with rfl | hy
        · exact List.mem_range.2 hp
        · exact List.mem_range.2 (hI.lt y hy))
      rw [List.length_range, List.length_cons] at this; omega
end
end Go.Proofs.YtpcmofhmhggcoaaDoor
