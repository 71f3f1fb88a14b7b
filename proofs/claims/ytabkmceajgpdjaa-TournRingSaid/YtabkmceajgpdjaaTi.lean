import Derived.Test.YtabkmceajgpdjaaTg
import Derived.Test.YtabkmceajgpdjaaTr
import Derived.Test.YtabkmceajgpdjaaRea
/- TournRing -/
set_option linter.all false
set_option maxRecDepth 100000
namespace Go.Proofs.Ytabkmceajgpdjaa
open Go.RowKit Go.Shelf Pl To
theorem behN_ev (o : List Nat) (c : Nat) (ho : o.length ≤ 100) : R1_Behind 300 (rowN o) (c : Int) = some (rowN (o ++ [c])) := by
  unfold R1_Behind appL
  rw [if_pos (by rw [rowN_len]; simp; omega), Option.bind_some]
  unfold app
  rw [if_pos (by rw [List.nil_append, rowN_len]; omega), Option.bind_some, List.nil_append]
  unfold rowN; rw [List.map_append]; rfl
theorem rg_L1 {l : List (Int × Int)} (hl : l.length ≤ 24) {k : Nat} (h8 : k ≤ 8) (rec : Int → List (Int × Int) → List Int → Option Bool) {ws : List Nat} (hw : ws.length ≤ 20) (v : Nat) (E : Nat → Bool)
    (hr : ∀ b, rec (k : Int) l (rowN (ws ++ [b])) = some (E b)) : ∀ (g c : Nat), k < c + g → c ≤ k →
    ∃ x : Int ⊕ Bool, L4_ring_L1 300 rec (k : Int) l (rowN ws) (v : Int) g (c : Int) = some x ∧ (match x with | .inr r => some r | .inl _ => some false) = some ((List.range' c (k - c)).any fun b => (gL l v b && !decide (b ∈ ws)) && E b)
  | 0, c, h, hc => by omega
  | g+1, c, h, hc => by
    rw [L4_ring_L1_s]
    by_cases hlt : c < k
    · have e : List.range' c (k - c) = c :: List.range' (c+1) (k - (c+1)) := by
        rw [show k - c = (k - (c+1)) + 1 by omega, List.range'_succ]
      have hb : R1_Goes 300 l (v : Int) (c : Int) = some (gL l v c) := R1_Goes_ev _ _ (by omega) (by omega)
      have hh : R1_Has 300 (rowN ws) (c : Int) = some (decide (c ∈ ws)) := by
        rw [R1_Has_ev _ (by rw [rowN_len]; omega) (by rw [rowN_len]; omega)]; congr 1; exact decide_eq_decide.2 mem_rowN
      obtain ⟨y, y1, y2⟩ := rg_L1 hl h8 rec hw v E hr g (c+1) (by omega) (by omega)
      rw [if_pos (by omega), hb, Option.bind_some, w64n (by omega), behN_ev ws c (by omega), e, List.any_cons]
      cases e1 : gL l v c
      · rw [if_neg (by decide), Option.bind_some, if_neg (by decide), Option.bind_some, if_neg (by decide), Bool.false_and, Bool.false_and, Bool.false_or]
        exact ⟨y, y1, y2⟩
      · rw [if_pos rfl, hh, Option.bind_some]
        cases e2 : decide (c ∈ ws)
        · rw [if_neg (by decide), Option.bind_some, if_pos rfl, Option.bind_some, hr, Option.bind_some]
          cases e3 : E c
          · rw [if_neg (by decide), Option.bind_some, if_neg (by decide), Bool.and_false, Bool.false_or]
            exact ⟨y, y1, y2⟩
          · rw [if_pos rfl, Option.bind_some, if_pos rfl]
            exact ⟨_, rfl, by simp⟩
        · rw [if_pos rfl, Option.bind_some, if_neg (by decide), Option.bind_some, if_neg (by decide), Bool.not_true, Bool.and_false, Bool.false_and, Bool.false_or]
          exact ⟨y, y1, y2⟩
    · have : c = k := by omega
      subst this
      rw [if_neg (by omega), Nat.sub_self]
      exact ⟨_, rfl, rfl⟩
theorem ring_ev {l : List (Int × Int)} (hl : l.length ≤ 24) {k : Nat} (h8 : k ≤ 8) : ∀ (d r : Nat) (ws : List Nat), r < d → 1 ≤ ws.length → ws.length + r = k →
    L4_ring 300 d (k : Int) l (rowN ws) = some (extB (gL l) k r ws)
  | 0, r, ws, h, _, _ => by omega
  | d+1, r, ws, h, h1, hws => by
    have i1 : ix (rowN ws) (wrap64 ((ws.length : Int) - 1)) = some ((lastN ws : Nat) : Int) := by
      rw [w64 (by omega) (by omega), show (ws.length : Int) - 1 = ((ws.length - 1 : Nat) : Int) by omega]
      exact ix_map (by omega)
    rw [L4_ring_s, rowN_len, i1, Option.bind_some]
    cases r with
    | zero =>
      have i2 : ix (rowN ws) 0 = some ((ws.getD 0 0 : Nat) : Int) := ix_map (j := 0) (by omega)
      have hb : R1_Goes 300 l ((lastN ws : Nat) : Int) ((ws.getD 0 0 : Nat) : Int) = some (gL l (lastN ws) (ws.getD 0 0)) := R1_Goes_ev _ _ (by omega) (by omega)
      rw [if_pos (by rw [beq_iff_eq]; omega), i2, Option.bind_some, hb]; rfl
    | succ r =>
      obtain ⟨x, x1, x2⟩ := rg_L1 hl h8 (L4_ring 300 d) (ws := ws) (by omega) (lastN ws) (fun b => extB (gL l) k r (ws ++ [b])) (fun b => ring_ev hl h8 d r (ws ++ [b]) (by omega) (by rw [List.length_append, List.length_singleton]; omega) (by rw [List.length_append, List.length_singleton]; omega)) 300 0 (by omega) (by omega)
      rw [if_neg (by rw [beq_iff_eq]; omega), show L4_ring_L1 300 (L4_ring 300 d) (k : Int) l (rowN ws) ((lastN ws : Nat) : Int) 300 0 = _ from x1, Option.bind_some]
      rw [Nat.sub_zero] at x2
      exact x2
/-! ### strong.Parts -/
def swL (l : List (Int × Int)) : List (Int × Int) := l.map fun p => (p.2, p.1)
theorem sp_L1 {l : List (Int × Int)} (hl : l.length ≤ 24) : ∀ (g j : Nat), l.length < j + g → j ≤ l.length → strong_Parts_L1 300 l g (j : Int) (swL (l.take j)) = some (swL l)
  | 0, j, h, hj => by omega
  | g+1, j, h, hj => by
    rw [strong_Parts_L1_s]
    by_cases hlt : j < l.length
    · rw [if_pos (by omega), ix_nat hlt, Option.bind_some, w64n (by omega)]
      unfold app
      rw [if_pos (by unfold swL; rw [List.length_map, List.length_take]; omega), Option.bind_some]
      have e : swL (l.take j) ++ [(l[j].2, l[j].1)] = swL (l.take (j+1)) := by
        unfold swL; rw [List.take_succ_eq_append_getElem hlt, List.map_append]; rfl
      rw [e]
      exact sp_L1 hl g (j+1) (by omega) (by omega)
    · have : j = l.length := by omega
      subst this
      rw [if_neg (by omega), List.take_length]
theorem sw_gL (l : List (Int × Int)) (i j : Nat) : gL (swL l) i j = gL l j i := by
  unfold gL swL
  rw [goesE, goesE, List.any_map, Bool.eq_iff_iff, List.any_eq_true, List.any_eq_true]
  constructor
  · rintro ⟨p, hp, h⟩
    refine ⟨p, hp, ?_⟩
    simp only [Function.comp, Bool.and_eq_true, decide_eq_true_eq] at h ⊢; exact ⟨h.2, h.1⟩
  · rintro ⟨p, hp, h⟩
    refine ⟨p, hp, ?_⟩
    simp only [Function.comp, Bool.and_eq_true, decide_eq_true_eq] at h ⊢; exact ⟨h.2, h.1⟩
/-- what is closed holds 0, forward and backward -/
def Both (b : Nat → Nat → Bool) (j : Nat) : Prop := (∀ S : Nat → Prop, S j → (∀ x y, S x → b x y = true → S y) → S 0) ∧ ∀ S : Nat → Prop, S j → (∀ x y, S x → b y x = true → S y) → S 0
theorem both_strong {k : Nat} {b : Nat → Nat → Bool} (hk : 0 < k) : (∀ j, j < k → Both b j) ↔ Strong k b := by
  constructor
  · rintro h S ⟨x, hx, hS⟩ hc y hy
    have h0 := (h x hx).1 S hS hc
    apply Classical.byContradiction
    intro hn
    exact (h y hy).2 (fun z => ¬ S z) hn (fun z w hz hwz hw => hz (hc w z hw hwz)) h0
  · intro h j hj
    refine ⟨fun S hS hc => h S ⟨j, hj, hS⟩ hc 0 hk, fun S hS hc => ?_⟩
    apply Classical.byContradiction
    intro hn
    exact h (fun z => ¬ S z) ⟨0, hk, hn⟩ (fun x y hx hxy hy => hx (hc y x hy hxy)) j hj hS
theorem memb_head {m : Nat} (hm : m < 65536) {j : Nat} (hj : m.testBit j = true) : 0 < (memb m).length ∧ ((memb m).getD 0 0 = 0 ↔ m.testBit 0 = true) := by
  have hjm := (mem_memb hm).2 hj
  have hl : 0 < (memb m).length := List.length_pos_of_mem hjm
  refine ⟨hl, ?_⟩
  have hmem : (memb m).getD 0 0 ∈ memb m := by
    have : (memb m).getD 0 0 = (memb m)[0] := by simp [List.getD, hl]
    rw [this]; exact List.getElem_mem _
  constructor
  · intro e; rw [e] at hmem; exact (mem_memb hm).1 hmem
  · intro h
    unfold memb
    rw [show (16 : Nat) = 15 + 1 from rfl, List.range_succ_eq_map, List.filter_cons, if_pos h]; rfl
section
variable {k : Nat} {l : List (Int × Int)}
theorem rch_ev {nx : List Nat} {b : Nat → Nat → Bool} (hn : nx.length = k) (hnx : ∀ i, nx.getD i 0 < 65536) (h8 : k ≤ 8) (hb : ∀ i j, (nx.getD i 0).testBit j = b i j) (hbk : ∀ i j, b i j = true → j < k) {a : Nat} (ha : a < k) :
    ∃ R, core_Reach 300 (a : Int) nx (2 ^ k - 1) = some R ∧ R < 2 ^ k ∧ R.testBit a = true ∧ (R.testBit 0 = true ↔ ∀ S : Nat → Prop, S a → (∀ x y, S x → b x y = true → S y) → S 0) := by
  have hp := Nat.two_pow_pos k
  obtain ⟨R, r1, r2, r3, r4, r5⟩ := reach_ev (wi := 2 ^ k - 1) hn hnx (by omega) (by omega) ha
  refine ⟨R, r1, r2, r3, ?_⟩
  constructor
  · intro h0 S hS hc
    exact r5 S hS (fun i j hi hij _ => hc i j hi (by rw [← hb]; exact hij)) 0 h0
  · intro h
    exact h (fun x => R.testBit x = true) r3 (fun x y hx hxy => r4 x hx y (by rw [hb]; exact hxy) (by rw [Nat.testBit_two_pow_sub_one]; exact decide_eq_true (hbk x y hxy)))
theorem sp_L2 (h8 : k ≤ 8) (hin : InL k l) (hins : InL k (swL l)) : ∀ (g j : Nat) (ps : List Nat), k < j + g → j ≤ k → ps.length = j → (∀ i, i < j → (ps.getD i 0 = 0 ↔ Both (gL l) i)) →
    ∃ qs : List Nat, strong_Parts_L2 300 (k : Int) (outTo k l) (outTo k (swL l)) g (j : Int) (rowN ps) = some (rowN qs) ∧ qs.length = k ∧ ∀ i, i < k → (qs.getD i 0 = 0 ↔ Both (gL l) i)
  | 0, j, ps, h, hj, _, _ => by omega
  | g+1, j, ps, h, hj, hl, hps => by
    rw [strong_Parts_L2_s]
    have hp := Nat.pow_le_pow_right (n := 2) (by omega) h8
    by_cases hlt : j < k
    · have hbel : sBelow (k : Int) = some (2 ^ k - 1) := by unfold sBelow; rw [if_pos (by omega), Int.toNat_natCast]
      obtain ⟨R, r1, r2, r3, r4⟩ := rch_ev (nx := outTo k l) (b := gL l) (outTo_row hin).1 (out_lt hin h8) h8 (outTo_bit hin) (fun i j h => (gL_lt hin h).2) hlt
      obtain ⟨B, b1, b2, b3, b4⟩ := rch_ev (nx := outTo k (swL l)) (b := gL (swL l)) (outTo_row hins).1 (out_lt hins h8) h8 (outTo_bit hins) (fun i j h => (gL_lt hins h).2) hlt
      have hand : R &&& B < 65536 := Nat.lt_of_le_of_lt Nat.and_le_left (by omega)
      obtain ⟨m1, m2⟩ := memb_head hand (j := j) (by rw [Nat.testBit_and, r3, b3]; rfl)
      have hA : sAnd R B = some (R &&& B) := by unfold sAnd; rw [if_pos ⟨by omega, by omega⟩]
      have hL : sList (R &&& B) = some (membI (R &&& B)) := by unfold sList; rw [if_pos hand]
      have hi : ix (membI (R &&& B)) 0 = some (((memb (R &&& B)).getD 0 0 : Nat) : Int) := ix_map (o := memb (R &&& B)) (j := 0) m1
      rw [if_pos (by omega), hbel, Option.bind_some, r1, Option.bind_some, Option.bind_some, b1, Option.bind_some, hA, Option.bind_some, hL, Option.bind_some, hi, Option.bind_some, w64n (by omega)]
      unfold app
      rw [if_pos (by rw [rowN_len]; omega), Option.bind_some]
      have e : rowN ps ++ [(((memb (R &&& B)).getD 0 0 : Nat) : Int)] = rowN (ps ++ [(memb (R &&& B)).getD 0 0]) := by unfold rowN; rw [List.map_append]; rfl
      rw [e]
      refine sp_L2 h8 hin hins g (j+1) _ (by omega) (by omega) (by rw [List.length_append, hl]; rfl) fun i hi2 => ?_
      by_cases c : i < j
      · have : (ps ++ [(memb (R &&& B)).getD 0 0]).getD i 0 = ps.getD i 0 := by simp only [List.getD, List.getElem?_append_left (show i < ps.length by omega)]
        rw [this]; exact hps i c
      · obtain rfl : i = j := by omega
        have : (ps ++ [(memb (R &&& B)).getD 0 0]).getD i 0 = (memb (R &&& B)).getD 0 0 := by
          simp only [List.getD, List.getElem?_append_right (show ps.length ≤ i by omega), hl, Nat.sub_self, List.getElem?_cons_zero, Option.getD_some]
        rw [this, m2, Nat.testBit_and, Bool.and_eq_true, r4, b4]
        unfold Both
        simp only [sw_gL]
    · have : j = k := by omega
      subst this
      rw [if_neg (by omega)]
      exact ⟨ps, rfl, hl, hps⟩
theorem parts_ev (h1 : 1 ≤ k) (h8 : k ≤ 8) (h24 : l.length ≤ 24) (hin : InL k l) (hne : ∀ p ∈ l, p.1 ≠ p.2) (hg : good (k : Int) l) (he : errG (k : Int) l = 0) :
    ∃ qs : List Nat, strong_Parts 300 (k : Int) l = some (rowN qs, 0) ∧ qs.length = k ∧ ∀ i, i < k → (qs.getD i 0 = 0 ↔ Both (gL l) i) := by
  have hins : InL k (swL l) := fun p hp => by
    obtain ⟨q, hq, rfl⟩ := List.mem_map.1 hp
    have := hin q hq
    exact ⟨this.2.2.1, this.2.2.2, this.1, this.2.1⟩
  have hnes : ∀ p ∈ swL l, p.1 ≠ p.2 := fun p hp => by
    obtain ⟨q, hq, rfl⟩ := List.mem_map.1 hp
    exact fun e => hne q hq e.symm
  have hls : (swL l).length = l.length := by unfold swL; rw [List.length_map]
  have hes : errG (k : Int) (swL l) = 0 := errG_ok h1 h8 (by omega) hins hnes
  have hgs : good (k : Int) (swL l) := ⟨hg.1, by rw [hls]; exact hg.2⟩
  obtain ⟨qs, q1, q2, q3⟩ := sp_L2 (l := l) h8 hin hins 300 0 [] (by omega) (by omega) rfl (fun i hi => by omega)
  refine ⟨qs, ?_, q2, q3⟩
  unfold strong_Parts
  rw [mCheck_ev hg, Option.bind_some, if_neg (by simp [he]), mOut_ev hg he, Option.bind_some, show strong_Parts_L1 300 l 300 0 [] = _ from sp_L1 h24 300 0 (by omega) (by omega), Option.bind_some, mOut_ev hgs hes, Option.bind_some,
    show strong_Parts_L2 300 (k : Int) (outTo k l) (outTo k (swL l)) 300 0 [] = _ from q1]; rfl
theorem one_L1 {qs : List Nat} (h8 : k ≤ 8) (hq : qs.length = k) : ∀ (g j : Nat) (c : Bool), k < j + g → j ≤ k → ∃ (c' : Bool) (x : Int), L4_TournRing_L1 300 (k : Int) (rowN qs) g c (j : Int) = some (c', x) ∧ (c' = true ↔ c = true ∧ ∀ i, j ≤ i → i < k → qs.getD i 0 = 0)
  | 0, j, c, h, hj => by omega
  | g+1, j, c, h, hj => by
    rw [L4_TournRing_L1_s]
    by_cases hlt : j < k
    · have i1 : ix (rowN qs) (j : Int) = some ((qs.getD j 0 : Nat) : Int) := ix_map (by omega)
      rw [if_pos (by omega), w64n (by omega)]
      cases c
      · rw [if_neg (by decide), Option.bind_some]
        obtain ⟨c', x, p1, p2⟩ := one_L1 h8 hq g (j+1) false (by omega) (by omega)
        exact ⟨c', x, p1, p2.trans (by simp)⟩
      · rw [if_pos rfl, i1, Option.bind_some]
        by_cases e : qs.getD j 0 = 0
        · rw [if_pos (by rw [beq_iff_eq]; omega), Option.bind_some]
          obtain ⟨c', x, p1, p2⟩ := one_L1 h8 hq g (j+1) true (by omega) (by omega)
          refine ⟨c', x, p1, p2.trans ?_⟩
          constructor
          · rintro ⟨_, h⟩
            refine ⟨rfl, fun i h1 h2 => ?_⟩
            by_cases q : i = j
            · subst q; exact e
            · exact h i (by omega) h2
          · rintro ⟨_, h⟩; exact ⟨rfl, fun i h1 h2 => h i (by omega) h2⟩
        · rw [if_neg (by rw [beq_iff_eq]; omega), Option.bind_some]
          obtain ⟨c', x, p1, p2⟩ := one_L1 h8 hq g (j+1) false (by omega) (by omega)
          refine ⟨c', x, p1, p2.trans ?_⟩
          constructor
          · rintro ⟨h, _⟩; cases h
          · rintro ⟨_, h⟩; exact absurd (h j (Nat.le_refl _) hlt) e
    · rw [if_neg (by omega)]
      exact ⟨c, _, rfl, by constructor; exact fun h => ⟨h, fun i h1 h2 => by omega⟩; exact fun h => h.1⟩
end
theorem tring_ev {n : Int} {l : List (Int × Int)} (hg : good n l) : L4_TournRing 300 n l = some true := by
  unfold L4_TournRing
  obtain ⟨e, hc, hE⟩ := check_ev hg
  have hT3 := tourn3_ev hg hE
  rw [fact_ev, Option.bind_some, if_pos rfl, hc, Option.bind_some]
  by_cases h : e = 0
  · subst h
    obtain ⟨k, rfl, h1, h8, h24, hin, he, hT, _⟩ := ck_zero hE
    obtain ⟨k', ek, _, _, _, _, hne⟩ := errG_zero he
    obtain ⟨qs, q1, q2, q3⟩ := parts_ev h1 h8 h24 hin hne hg he
    obtain ⟨c', x, p1, p2⟩ := one_L1 (k := k) h8 q2 300 0 true (by omega) (by omega)
    have hst : c' = true ↔ Strong k (gL l) := by
      rw [p2, ← both_strong (by omega)]
      constructor
      · rintro ⟨_, h⟩ j hj; exact (q3 j hj).1 (h j (Nat.zero_le _) hj)
      · intro h; exact ⟨rfl, fun i _ hi => (q3 i hi).2 (h i hi)⟩
    rw [if_neg (by decide), q1, Option.bind_some]
    dsimp only
    rw [if_neg (by decide), rowN_len, q2, if_neg (by simp), Option.bind_some, if_neg (by decide), hT3, Option.bind_some, if_neg (by decide), Option.bind_some, if_neg (by decide), show L4_TournRing_L1 300 (k : Int) (rowN qs) 300 true 0 = _ from p1, Option.bind_some]
    by_cases c3 : k < 3
    · rw [if_pos (by omega)]; rfl
    · have hr : L4_ring 300 300 (k : Int) l [0] = some (extB (gL l) k (k - 1) [0]) := ring_ev h24 h8 300 (k - 1) [0] (by omega) (by simp) (by simp; omega)
      rw [if_neg (by omega), hr, Option.bind_some]
      have hx := ext_iff hT (by omega)
      have e : c' = extB (gL l) k (k - 1) [0] := by rw [Bool.eq_iff_iff, hst, hx]
      dsimp only
      rw [if_pos (by rw [beq_iff_eq]; exact e)]; rfl
  · rw [if_pos (by rw [bne_iff_ne]; exact h), hT3, Option.bind_some, if_pos (by rw [bne_iff_ne]; exact h)]; rfl
theorem tournRing_any (w : World) (n : Int) (hn : (Lit.int .i64 n).wf = true) (A : Option Addr) (cap : Nat) (l : List (Int × Int)) (hr : ReadsL w w.heap.size A l) (hl : l.length ≤ maxLen) :
    Calls Try.prog 5 #[.int .i64 n, .slice A l.length cap] w fun e w' => e = .returned (.bool true) ∧ Below w.heap.size w w' :=
  L4_TournRing_ok w cap hr (tring_ev ⟨hn, hl⟩)
end Go.Proofs.Ytabkmceajgpdjaa
