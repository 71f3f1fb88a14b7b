import Derived.Test.YthmfgnpkbcbkcaaDoorRK
import Derived.Test.YthmfgnpkbcbkcaaDoorBB2
import Derived.Test.YthmfgnpkbcbkcaaDoorFwT
/- the book and the document's book: what they have in common -/
set_option linter.all false
set_option maxRecDepth 100000
namespace Go.Proofs.YthmfgnpkbcbkcaaDoor
open Go.RowKit Pl
structure RRel (x : RbT) (b : BkT) : Prop where
  inv : BInv b
  txt : x.2.1 = b.2.1
  many : x.2.2 = b.2.2
  inl : InL 8 x.1
  bes : ∀ i j : Nat, i < 8 → j < 8 → (mk b i).testBit j = besL x.1 i j
  len : (x.1.length : Int) ≤ x.2.2
theorem rrel_new : RRel ([], (⟨#[]⟩ : ByteArray), 0) newB := by
  refine ⟨new_inv, rfl, rfl, fun p hp => (by cases hp), fun i j hi hj => ?_, by decide⟩
  have e : ∀ k, k < 8 → mk newB k = 0 := by decide
  rw [e i hi]; simp [besL, goes]
theorem besL_snoc (l : List (Int × Int)) (i j x y : Int) : besL (l ++ [(i, j)]) x y = (besL l x y || ((i == x && j == y) || (i == y && j == x))) := by
  unfold besL goes
  rw [List.any_append, List.any_append]
  simp only [List.any_cons, List.any_nil, Bool.or_false]
  cases List.any l fun p => p.1 == x && p.2 == y <;> cases List.any l fun p => p.1 == y && p.2 == x <;> simp
theorem goes_cut (l : List (Int × Int)) (i j x y : Int) : goes (cutL l i j) x y = (goes l x y && !((x == i && y == j) || (x == j && y == i))) := by
  unfold goes cutL
  rw [Bool.eq_iff_iff, Bool.and_eq_true, List.any_eq_true, List.any_eq_true]
  constructor
  · rintro ⟨p, hp, hh⟩
    obtain ⟨h1, h2⟩ := List.mem_filter.1 hp
    rw [Bool.and_eq_true, beq_iff_eq, beq_iff_eq] at hh
    refine ⟨⟨p, h1, by rw [Bool.and_eq_true, beq_iff_eq, beq_iff_eq]; exact hh⟩, ?_⟩
    rw [hh.1, hh.2] at h2; exact h2
  · rintro ⟨⟨p, h1, hh⟩, h2⟩
    refine ⟨p, List.mem_filter.2 ⟨h1, ?_⟩, hh⟩
    rw [Bool.and_eq_true, beq_iff_eq, beq_iff_eq] at hh
    rw [hh.1, hh.2]; exact h2
theorem besL_cut (l : List (Int × Int)) (i j x y : Int) : besL (cutL l i j) x y = (besL l x y && !((x == i && y == j) || (x == j && y == i))) := by
  unfold besL
  rw [goes_cut, goes_cut]
  cases goes l x y <;> cases goes l y x <;> cases x == i <;> cases y == j <;> cases x == j <;> cases y == i <;> rfl
theorem natInt_beq (a b : Nat) : ((a : Int) == (b : Int)) = decide (a = b) := by
  by_cases h : a = b
  · subst h; simp
  · rw [decide_eq_false h]; simp; omega
theorem RRel.size {x : RbT} {b : BkT} (h : RRel x b) : x.1.length < 290 ∧ x.2.1.size < 1000000 ∧ 0 ≤ x.2.2 := by
  have h1 := h.len; have h2 := h.many; have h3 := h.inv.many1; have h4 := h.inv.many0; have h5 := h.inv.txt; have h6 := h.txt
  rw [h6]; omega
theorem RRel.has {x : RbT} {b : BkT} (h : RRel x b) {i j : Nat} (hi : i < 8) (hj : j < 8) : hasB b.1 i j = besL x.1 i j := h.bes i j hi hj
theorem join_rel {x : RbT} {b : BkT} (h : RRel x b) (i j : Int) : ∃ e x' b', mJoin b i j = some (e, b') ∧ mJ4 x i j = some (x', e) ∧ RRel x' b' ∧ (e = 0 → b'.2.2 = b.2.2 + 1) ∧ (e ≠ 0 → b' = b ∧ x' = x) := by
  unfold mJoin mJ4
  rw [if_pos h.inv.ok, if_pos h.size]
  unfold r4E
  have hm := h.many; have h60 := h.inv.many1
  by_cases c1 : bkE i j = 0
  · rw [if_pos c1, if_pos c1]
    obtain ⟨p, q, rfl, rfl, hp, hq, hne⟩ := bkE_zero c1
    rw [h.has hp hq]
    by_cases c2 : besL x.1 p q = true
    · rw [if_pos c2, if_pos c2, if_neg (by decide)]
      exact ⟨6, x, b, rfl, rfl, h, fun q => (by cases q), fun _ => ⟨rfl, rfl⟩⟩
    · rw [if_neg c2, if_neg c2]
      by_cases c3 : b.2.2 = 60
      · rw [if_pos c3, if_pos (show 60 ≤ x.2.2 by omega), if_neg (by decide)]
        exact ⟨4, x, b, rfl, rfl, h, fun q => (by cases q), fun _ => ⟨rfl, rfl⟩⟩
      · rw [if_neg c3, if_neg (show ¬ 60 ≤ x.2.2 by omega), if_pos rfl]
        refine ⟨0, _, _, rfl, rfl, ⟨join_inv h.inv hp hq hne c3, ?_, ?_, fun r hr => ?_, fun a c ha hc => ?_, ?_⟩, fun _ => rfl, fun q => absurd rfl q⟩
        · show x.2.1 ++ _ = b.2.1 ++ _; rw [h.txt]
        · show x.2.2 + 1 = b.2.2 + 1; rw [h.many]
        · rcases List.mem_append.1 hr with hr | hr
          · exact h.inl r hr
          · rw [List.mem_singleton.1 hr]; omega
        · rw [join_bit h.inv hp hq hne a c ha, besL_snoc, h.bes a c ha hc]
          congr 1
          rw [natInt_beq, natInt_beq, natInt_beq, natInt_beq]
          by_cases e1 : p = a <;> by_cases e2 : q = c <;> by_cases e3 : p = c <;> by_cases e4 : q = a <;> simp [e1, e2, e3, e4] <;> omega
        · show ((x.1 ++ [_]).length : Int) ≤ x.2.2 + 1
          have := h.len
          rw [List.length_append]; simp; omega
  · rw [if_neg c1, if_neg c1, if_neg c1]
    exact ⟨_, x, b, rfl, rfl, h, fun q => absurd q c1, fun _ => ⟨rfl, rfl⟩⟩
theorem cut_rel {x : RbT} {b : BkT} (h : RRel x b) (i j : Int) : ∃ e x' b', mCut b i j = some (e, b') ∧ mC4 x i j = some (x', e) ∧ RRel x' b' ∧ (e = 0 → b'.2.2 = b.2.2 + 1) ∧ (e ≠ 0 → b' = b ∧ x' = x) := by
  unfold mCut mC4
  rw [if_pos h.inv.ok, if_pos h.size]
  unfold r4C
  have hm := h.many; have h60 := h.inv.many1
  by_cases c1 : bkE i j = 0
  · rw [if_pos c1, if_pos c1]
    obtain ⟨p, q, rfl, rfl, hp, hq, hne⟩ := bkE_zero c1
    rw [h.has hp hq]
    by_cases c2 : besL x.1 p q = true
    · rw [if_pos c2, if_pos c2]
      by_cases c3 : b.2.2 = 60
      · rw [if_pos c3, if_pos (show 60 ≤ x.2.2 by omega), if_neg (by decide)]
        exact ⟨4, x, b, rfl, rfl, h, fun q => (by cases q), fun _ => ⟨rfl, rfl⟩⟩
      · rw [if_neg c3, if_neg (show ¬ 60 ≤ x.2.2 by omega), if_pos rfl]
        refine ⟨0, _, _, rfl, rfl, ⟨cut_inv h.inv hp hq hne c3, ?_, ?_, fun r hr => ?_, fun a c ha hc => ?_, ?_⟩, fun _ => rfl, fun q => absurd rfl q⟩
        · show x.2.1 ++ _ = b.2.1 ++ _; rw [h.txt]
        · show x.2.2 + 1 = b.2.2 + 1; rw [h.many]
        · exact h.inl r (List.mem_filter.1 hr).1
        · rw [cut_bit h.inv hp hq hne a c ha, besL_cut, h.bes a c ha hc]
          congr 2
          rw [natInt_beq, natInt_beq, natInt_beq, natInt_beq]
          by_cases e1 : a = p <;> by_cases e2 : c = q <;> by_cases e3 : a = q <;> by_cases e4 : c = p <;> simp [e1, e2, e3, e4] <;> omega
        · show ((cutL x.1 _ _).length : Int) ≤ x.2.2 + 1
          have := h.len
          have := List.length_filter_le (fun r : Int × Int => !((r.1 == (p : Int) && r.2 == (q : Int)) || (r.1 == (q : Int) && r.2 == (p : Int)))) x.1
          unfold cutL; omega
    · rw [if_neg c2, if_neg c2, if_neg (by decide)]
      exact ⟨5, x, b, rfl, rfl, h, fun q => (by cases q), fun _ => ⟨rfl, rfl⟩⟩
  · rw [if_neg c1, if_neg c1, if_neg c1]
    exact ⟨_, x, b, rfl, rfl, h, fun q => absurd q c1, fun _ => ⟨rfl, rfl⟩⟩
/-! ### all lines -/
def allR (l : List (Int × Int)) (i : Nat) : List (Int × Int) := ((List.range' (i + 1) (8 - (i + 1))).filter fun j : Nat => besL l (i : Int) (j : Int)).map fun j : Nat => ((i : Int), (j : Int))
def allL (l : List (Int × Int)) : List (Int × Int) := (List.range 8).flatMap (allR l)
theorem all_eq {x : RbT} {b : BkT} (h : RRel x b) : linesOf b.1 = allL x.1 := by
  unfold linesOf allL
  have hrow : ∀ i ∈ List.range 8, rowB b.1 i = allR x.1 i := fun i hi => by
    have hi := List.mem_range.1 hi
    unfold rowB allR
    congr 1
    have hm : ∀ j, (upM (b.1.getD i 0) i).testBit j = ((mk b i).testBit j && decide (i ≤ j)) := fun j => upM_bit _ _ _
    have hlt := h.inv.lt i hi
    show (List.range 16).filter (fun j => (upM (b.1.getD i 0) i).testBit j) = _
    have e16 : List.range 16 = List.range' 0 (i + 1) ++ (List.range' (i + 1) (8 - (i + 1)) ++ List.range' 8 8) := by
      rw [List.range_eq_range']
      have : ∀ i, i < 8 → List.range' 0 16 = List.range' 0 (i + 1) ++ (List.range' (i + 1) (8 - (i + 1)) ++ List.range' 8 8) := by decide
      exact this i hi
    rw [e16, List.filter_append, List.filter_append]
    have z1 : (List.range' 0 (i + 1)).filter (fun j => (upM (b.1.getD i 0) i).testBit j) = [] := by
      rw [List.filter_eq_nil_iff]
      intro j hj
      rw [List.mem_range'_1] at hj
      rw [hm]
      by_cases e : j = i
      · subst e; rw [h.inv.irr j hi]; simp
      · rw [decide_eq_false (by omega)]; simp
    have z2 : (List.range' 8 8).filter (fun j => (upM (b.1.getD i 0) i).testBit j) = [] := by
      rw [List.filter_eq_nil_iff]
      intro j hj
      rw [List.mem_range'_1] at hj
      rw [hm, bit256 hlt (by omega)]; simp
    rw [z1, z2, List.nil_append, List.append_nil]
    refine List.filter_congr fun j hj => ?_
    rw [List.mem_range'_1] at hj
    rw [hm, h.bes i j hi (by omega), decide_eq_true (show i ≤ j by omega), Bool.and_true]
  rw [List.flatMap_def, List.flatMap_def, List.map_congr_left hrow]
/-! ### how far -/
theorem bf_L2 {b : BkT} (h : BInv b) (F : Nat) : ∀ (xs : List Nat) (acc : Nat), (∀ p ∈ xs, p < 8) → acc < 256 →
    ∃ R, brambleweir_book_Book_Far_L2 F b.1 xs acc = some R ∧ R < 256 ∧ ∀ q, R.testBit q = true ↔ acc.testBit q = true ∨ ∃ p ∈ xs, (mk b p).testBit q = true
  | [], acc, _, ha => ⟨acc, by rw [brambleweir_book_Book_Far_L2_n], ha, fun q => by simp⟩
  | p :: xs, acc, hx, ha => by
    have hp := hx p List.mem_cons_self
    have h1 : ix b.1 (p : Int) = some (mk b p) := ix_at 0 (by have := h.len; omega)
    have hlt := h.lt p hp
    have ho : sOr acc (mk b p) = some (acc ||| mk b p) := by unfold sOr; rw [if_pos (by omega)]
    have hlt2 : acc ||| mk b p < 2 ^ 8 := Nat.or_lt_two_pow (by omega) (by omega)
    obtain ⟨R, r1, r2, r3⟩ := bf_L2 h F xs (acc ||| mk b p) (fun y hy => hx y (List.mem_cons_of_mem _ hy)) hlt2
    refine ⟨R, by rw [brambleweir_book_Book_Far_L2_c, h1, Option.bind_some, ho, Option.bind_some, r1], r2, fun q => ?_⟩
    rw [r3, Nat.testBit_or, Bool.or_eq_true]
    constructor
    · rintro ((q1 | q1) | ⟨y, y1, y2⟩)
      · exact .inl q1
      · exact .inr ⟨p, List.mem_cons_self, q1⟩
      · exact .inr ⟨y, List.mem_cons_of_mem _ y1, y2⟩
    · rintro (q1 | ⟨y, y1, y2⟩)
      · exact .inl (.inl q1)
      · rcases List.mem_cons.1 y1 with rfl | y1
        · exact .inl (.inr y2)
        · exact .inr ⟨y, y1, y2⟩
theorem flt_mono {p q : Nat → Bool} : ∀ xs : List Nat, (∀ x ∈ xs, p x = true → q x = true) → (xs.filter p).length ≤ (xs.filter q).length
  | [], _ => Nat.le_refl _
  | x :: xs, h => by
    have ih := flt_mono xs fun y hy => h y (List.mem_cons_of_mem _ hy)
    cases e : p x
    · rw [List.filter_cons_of_neg (by rw [e]; decide)]
      cases e2 : q x
      · rw [List.filter_cons_of_neg (by rw [e2]; decide)]; exact ih
      · rw [List.filter_cons_of_pos e2, List.length_cons]; omega
    · rw [List.filter_cons_of_pos e, List.filter_cons_of_pos (h x List.mem_cons_self e), List.length_cons, List.length_cons]; omega
theorem memb_grow {m m' q : Nat} (hm' : m' < 65536) (hs : ∀ x, m.testBit x = true → m'.testBit x = true) (h0 : m.testBit q = false) (h1 : m'.testBit q = true) : (memb m).length + 1 ≤ (memb m').length := by
  have hmem : q ∈ memb m' := (mem_memb hm').2 h1
  have := memb_less hmem
  have h2 : (memb m).length ≤ (memb (ndiff m' (2 ^ q))).length := flt_mono _ fun x _ hx => by
    rw [ndiff_testBit, hs x hx, Nat.testBit_two_pow]
    by_cases e : q = x
    · subst e; rw [h0] at hx; cases hx
    · rw [decide_eq_false e]; rfl
  omega
theorem bf_L1 {b : BkT} (h : BInv b) {i j : Nat} (hi : i < 8) (hj : j < 8) {o : List Int} (hf : Far 8 (fun a c => (mk b a).testBit c = true) i o) : ∀ (g : Nat) (S : Nat) (kk : Nat), 9 < (memb S).length + g → S < 256 → (∀ q, q < 8 → (S.testBit q = true ↔ 0 ≤ o.getD q 0 ∧ o.getD q 0 ≤ (kk : Int))) →
    ¬ (0 ≤ o.getD j 0 ∧ o.getD j 0 < (kk : Int)) → kk < (memb S).length → brambleweir_book_Book_Far_L1 300 b.1 (j : Int) g S (kk : Int) = some (.inr (o.getD j 0, 0))
  | 0, S, kk, hg, hS, _, _, _ => by
    exfalso
    have : (memb S).length ≤ 8 := by
      show ((List.range 16).filter fun i => S.testBit i).length ≤ 8
      rw [show List.range 16 = List.range' 0 8 ++ List.range' 8 8 by decide, List.filter_append]
      have z2 : (List.range' 8 8).filter (fun j => S.testBit j) = [] := by
        rw [List.filter_eq_nil_iff]
        intro j hj
        rw [List.mem_range'_1] at hj
        rw [bit256 hS (by omega)]; simp
      rw [z2, List.append_nil]
      have := List.length_filter_le (fun j => S.testBit j) (List.range' 0 8)
      rw [List.length_range'] at this; exact this
    omega
  | g+1, S, kk, hg, hS, hinv, hno, hkk => by
    have hh : sHas S (j : Int) = some (S.testBit j) := by unfold sHas; rw [if_pos (by omega), Int.toNat_natCast]
    rw [brambleweir_book_Book_Far_L1_s, hh, Option.bind_some]
    have hml : (memb S).length ≤ 16 := by unfold memb; have := List.length_filter_le (fun i => S.testBit i) (List.range 16); rwa [List.length_range] at this
    by_cases c : S.testBit j = true
    · have hc := (hinv j hj).1 c
      have : o.getD j 0 = (kk : Int) := by omega
      rw [if_pos c, this]
    · have he : sEach S = some (memb S) := by unfold sEach; rw [if_pos (by omega)]
      have hx : ∀ p ∈ memb S, p < 8 := fun p hp => by
        have := (mem_memb (by omega)).1 hp
        rcases Nat.lt_or_ge p 8 with q | q
        · exact q
        · rw [bit256 hS q] at this; cases this
      obtain ⟨R, r1, r2, r3⟩ := bf_L2 h 300 (memb S) S hx hS
      rw [if_neg c, he, Option.bind_some, r1, Option.bind_some]
      have hR : ∀ q, q < 8 → (R.testBit q = true ↔ 0 ≤ o.getD q 0 ∧ o.getD q 0 ≤ ((kk + 1 : Nat) : Int)) := fun q hq => by
        rw [r3]
        constructor
        · rintro (q1 | ⟨p, p1, p2⟩)
          · have := (hinv q hq).1 q1; omega
          · have hp8 := hx p p1
            have := (hinv p hp8).1 ((mem_memb (by omega)).1 p1)
            have := hf.step p q hp8 this.1 p2
            omega
        · rintro ⟨q1, q2⟩
          by_cases e : o.getD q 0 ≤ (kk : Int)
          · exact .inl ((hinv q hq).2 ⟨q1, e⟩)
          · rcases hf.down q hq q1 with e2 | ⟨p, p1, p2, p3, p4⟩
            · subst e2; have := hf.start; omega
            · exact .inr ⟨p, (mem_memb (by omega)).2 ((hinv p p1).2 ⟨p3, by omega⟩), p2⟩
      by_cases e : R = S
      · subst e
        rw [if_pos (by rw [beq_iff_eq])]
        have hall : ∀ n : Nat, ∀ q, q < 8 → ¬ (o.getD q 0 = ((kk + 1 + n : Nat) : Int)) := by
          intro n
          induction n with
          | zero =>
            intro q hq hqe
            have h1 := (hR q hq).2 ⟨by omega, by omega⟩
            have := (hinv q hq).1 h1
            omega
          | succ n ih =>
            intro q hq hqe
            rcases hf.down q hq (by omega) with e2 | ⟨p, p1, p2, p3, p4⟩
            · subst e2; have := hf.start; omega
            · exact ih p p1 (by omega)
        have hneg : o.getD j 0 = -1 := by
          have hlow := hf.low j hj
          apply Classical.byContradiction
          intro hne
          have h0 : 0 ≤ o.getD j 0 := by omega
          have hnk : ¬ o.getD j 0 ≤ (kk : Int) := fun q => c ((hinv j hj).2 ⟨h0, q⟩)
          exact hall (o.getD j 0 - (kk + 1)).toNat j hj (by omega)
        rw [hneg]
      · rw [if_neg (by rw [beq_iff_eq]; exact e), w64n (by omega)]
        have hgrow : (memb S).length + 1 ≤ (memb R).length := by
          have : ∃ q, R.testBit q = true ∧ S.testBit q = false := by
            apply Classical.byContradiction
            intro hn
            refine e (Nat.eq_of_testBit_eq fun q => ?_)
            rw [Bool.eq_iff_iff]
            constructor
            · intro hq
              cases e3 : S.testBit q
              · exact absurd ⟨q, hq, e3⟩ hn
              · rfl
            · intro hq; exact (r3 q).2 (.inl hq)
          obtain ⟨q, q1, q2⟩ := this
          exact memb_grow (by omega) (fun x hx => (r3 x).2 (.inl hx)) q2 q1
        refine bf_L1 h hi hj hf g R (kk + 1) (by omega) r2 hR (fun hq => ?_) (by omega)
        exact c ((hinv j hj).2 ⟨hq.1, by omega⟩)
theorem ad_mk {x : RbT} {b : BkT} (h : RRel x b) (a c : Nat) (ha : a < 8) : Ad 8 x.1 a c ↔ (mk b a).testBit c = true := by
  rw [ad_iff h.inl]
  by_cases hc : c < 8
  · rw [h.bes a c ha hc]
    unfold besL goes
    rw [Bool.or_eq_true, List.any_eq_true, List.any_eq_true]
    constructor
    · rintro ⟨p, hp, ⟨e1, e2⟩ | ⟨e1, e2⟩⟩
      · exact .inl ⟨p, hp, by rw [e1, e2]; simp⟩
      · exact .inr ⟨p, hp, by rw [e1, e2]; simp⟩
    · rintro (⟨p, hp, hh⟩ | ⟨p, hp, hh⟩)
      · rw [Bool.and_eq_true, beq_iff_eq, beq_iff_eq] at hh; exact ⟨p, hp, .inl hh⟩
      · rw [Bool.and_eq_true, beq_iff_eq, beq_iff_eq] at hh; exact ⟨p, hp, .inr hh⟩
  · rw [bit256 (h.inv.lt a ha) (by omega)]
    constructor
    · rintro ⟨p, hp, hh⟩
      have := h.inl p hp; omega
    · intro q; cases q
theorem far_rel {x : RbT} {b : BkT} (h : RRel x b) (i j : Int) : ∃ r, brambleweir_book_Book_Far 300 b.1 i j = some r ∧ mF4 x i j = some r ∧ (r.2 ≠ 0 ↔ ¬ ((0 ≤ i ∧ i ≤ 7) ∧ (0 ≤ j ∧ j ≤ 7))) := by
  unfold brambleweir_book_Book_Far mF4
  rw [core_All_ev _ _ (by simp) (by simp), Option.bind_some]
  by_cases c : (0 ≤ i ∧ i ≤ 7) ∧ (0 ≤ j ∧ j ≤ 7)
  · have hA : allIn [i, j] 0 7 = true := by simp [allIn]; omega
    rw [if_pos hA, if_pos c]
    obtain ⟨i', rfl⟩ := Int.eq_ofNat_of_zero_le c.1.1
    obtain ⟨j', rfl⟩ := Int.eq_ofNat_of_zero_le c.2.1
    have hi : i' < 8 := by omega
    have hj : j' < 8 := by omega
    obtain ⟨M, hM, hSh, hF⟩ := far_mat (k := 8) (l := x.1) (by omega) (by have := h.size; omega) h.inl
    have hf := hF i' hi
    have hf2 : Far 8 (fun a c => (mk b a).testBit c = true) i' (M.getD i' []) :=
      ⟨hf.len, hf.low, hf.start, fun a c ha h0 hb => hf.step a c ha h0 ((ad_mk h a c ha).2 hb), fun q hq h0 => (hf.down q hq h0).imp id fun ⟨p, p1, p2, p3⟩ => ⟨p, p1, (ad_mk h p q p1).1 p2, p3⟩⟩
    have hw : sWith 0 (i' : Int) = some (2 ^ i') := by unfold sWith; rw [if_pos (by omega), Int.toNat_natCast, Nat.zero_or]
    have hp : 2 ^ i' ≤ 2 ^ 7 := Nat.pow_le_pow_right (by omega) (by omega)
    have hm1 : (memb (2 ^ i')).length = 1 := by
      have : ∀ k, k < 8 → (memb (2 ^ k)).length = 1 := by decide +kernel
      exact this i' hi
    have hmain := bf_L1 h.inv hi hj hf2 300 (2 ^ i') 0 (by omega) (by omega) (fun q hq => by
      rw [Nat.testBit_two_pow, decide_eq_true_eq]
      constructor
      · intro e; subst e; have := hf.start; omega
      · rintro ⟨q1, q2⟩
        rcases hf.down q hq q1 with e2 | ⟨p, p1, p2, p3, p4⟩
        · exact e2.symm
        · omega) (by omega) (by omega)
    have m1 : ix M (i' : Int) = some (M.getD i' []) := hSh.ix hi
    have m2 : ix (M.getD i' []) (j' : Int) = some ((M.getD i' []).getD j' 0) := hSh.ix2 hi hj
    rw [hw, Option.bind_some, show brambleweir_book_Book_Far_L1 300 b.1 (j' : Int) 300 (2 ^ i') 0 = _ from hmain, Option.bind_some,
      show R1_Far 300 8 x.1 true (-1) = some M from hM, Option.bind_some, m1, Option.bind_some, m2, Option.bind_some]
    exact ⟨_, rfl, rfl, by simp [c]⟩
  · have hA : allIn [i, j] 0 7 = false := by
      cases e : allIn [i, j] 0 7
      · rfl
      · exfalso; simp [allIn] at e; omega
    rw [if_neg (by rw [hA]; decide), if_neg c]
    exact ⟨(0, 1), rfl, rfl, by simp [c]⟩
end Go.Proofs.YthmfgnpkbcbkcaaDoor
/- the document's book: all lines -/
set_option linter.all false
set_option maxRecDepth 100000
namespace Go.Proofs.YthmfgnpkbcbkcaaDoor
open Go.RowKit Go.Shelf Pl
def preR (l : List (Int × Int)) (i j : Nat) : List (Int × Int) := ((List.range' (i + 1) (j - (i + 1))).filter fun j : Nat => besL l (i : Int) (j : Int)).map fun j : Nat => ((i : Int), (j : Int))
def preA (l : List (Int × Int)) (i : Nat) : List (Int × Int) := (List.range i).flatMap (allR l)
theorem preR_step (l : List (Int × Int)) {i j : Nat} (h : i + 1 ≤ j) : preR l i (j + 1) = preR l i j ++ (if besL l (i : Int) (j : Int) = true then [((i : Int), (j : Int))] else []) := by
  unfold preR
  have e : List.range' (i + 1) (j + 1 - (i + 1)) = List.range' (i + 1) (j - (i + 1)) ++ [j] := by
    rw [show j + 1 - (i + 1) = (j - (i + 1)) + 1 by omega, List.range'_concat, Nat.one_mul, show i + 1 + (j - (i + 1)) = j by omega]
  rw [e, List.filter_append, List.map_append]
  congr 1
  by_cases c : besL l (i : Int) (j : Int) = true
  · rw [if_pos c, List.filter_cons_of_pos (by simpa using c)]; rfl
  · rw [if_neg c, List.filter_cons_of_neg (by simpa using c)]; rfl
theorem preA_step (l : List (Int × Int)) (i : Nat) : preA l (i + 1) = preA l i ++ preR l i 8 := by
  unfold preA
  rw [List.range_succ, List.flatMap_append]
  simp only [List.flatMap_cons, List.flatMap_nil, List.append_nil]; rfl
theorem preR_zero (l : List (Int × Int)) (i : Nat) : preR l i (i + 1) = [] := by unfold preR; rw [Nat.sub_self]; rfl
theorem preR_len (l : List (Int × Int)) {i j : Nat} (hj : j ≤ 8) : (preR l i j).length ≤ 8 := by
  unfold preR
  rw [List.length_map]
  have := List.length_filter_le (fun j : Nat => besL l (i : Int) (j : Int)) (List.range' (i + 1) (j - (i + 1)))
  rw [List.length_range'] at this; omega
theorem preA_len (l : List (Int × Int)) : ∀ i, (preA l i).length ≤ 8 * i
  | 0 => by simp [preA]
  | i+1 => by
    rw [preA_step, List.length_append]
    have := preA_len l i
    have := preR_len l (i := i) (j := 8) (by omega)
    omega
set_option maxHeartbeats 4000000 in
theorem all4_ok {A : Option Addr} {cap : Nat} {l : List (Int × Int)} {t : ByteArray} {n : Int} (w : World) (hr : ReadsL w w.heap.size A l) (hl : l.length < 290) :
    Calls Tryd.prog 19 #[.agg #[.slice A l.length cap, .string t, .int .i64 n]] w (PostG (fun v => v) (fun v => owL v (allL l)) w.heap.size w) := by
  have HR := Lib.hid hr; clear hr
  have HBV := Lib.hid (fun (i j : Int) => (R1_Beside_ev i j (by omega) (by omega) : R1_Beside 300 l i j = some (besL l i j)))
  have e1 : (w.alloc (.cells #[Value.slice A l.length cap, .string t, .int .i64 n] 38)).heap[w.heap.size]? = some (.cells #[Value.slice A l.length cap, .string t, .int .i64 n] 38 (0, 0)) := heap_alloc_new w _
  have hb2 : Below w.heap.size w (w.alloc (.cells #[Value.slice A l.length cap, .string t, .int .i64 n] 38)) := (Below.refl _ _).alloc (Nat.le_refl _) _
  go_enter Tryd.func19, Tryd.ntmps19
  go_wp2_with fail
  generalize hW : World.alloc w _ = W2 at *
  clear hW
  have l1 : w.heap.size < W2.heap.size := (Array.getElem?_eq_some_iff.1 e1).1
  have k0 : W2.cell? ⟨w.heap.size, 0, none⟩ = some (Value.slice A l.length cap) := by rw [Lib.cell_of_heap e1]; rfl
  have K0 := Lib.hid k0; have HB2 := Lib.hid hb2; have L1 := Lib.hid l1
  clear k0 e1 hb2 l1
  go_loopg [3, 4] 300 (fun gg uv ui wr => ∃ (V : Value) (i : Nat), V = uv ∧ ui = .int .i64 i ∧ i ≤ 8 ∧ gg = 300 - i ∧ Hid (Below W2.heap.size W2 wr) ∧ Hid (HP wr W2.heap.size [.fl (owL V (preA l i))]))
  case atStart => exact ⟨_, 0, rfl, rfl, by omega, rfl, Lib.hid (Below.refl _ _), Lib.hid (HP.nil.pushNil 49 2)⟩
  case round =>
    obtain ⟨V, i, rfl, rfl, hi, rfl, HD, HP_⟩ := hrel
    rename World => W3
    by_cases hi8 : ((i : Nat) : Int) < 8
    · go_wp2_with fail
      have hii : i + 1 ≤ 8 := by omega
      clear hi8
      go_loopg [3, 5] (300 - (i + 1)) (fun gg uv uj wr => ∃ (V : Value) (j : Nat), V = uv ∧ uj = .int .i64 j ∧ i + 1 ≤ j ∧ j ≤ 8 ∧ gg = 300 - j ∧ Hid (Below W2.heap.size W2 wr) ∧ Hid (HP wr W2.heap.size [.fl (owL V (preA l i ++ preR l i j))]))
      case atStart => exact ⟨_, i + 1, rfl, by go_num, Nat.le_refl _, hii, rfl, HD, Lib.hid (by rw [preR_zero, List.append_nil]; exact HP_.out)⟩
      case round =>
        clear HD HP_ hii
        obtain ⟨V, j, rfl, rfl, hij, hj, rfl, HD, HP_⟩ := hrel
        rename World => W4
        by_cases hj8 : ((j : Nat) : Int) < 8
        · have c0 := (HD.out.cell (p := ⟨w.heap.size, 0, none⟩) L1.out).trans K0.out
          have HC := Lib.hid (R1_Beside_ok W4 cap (rdL (HB2.out.trans (HD.out.mono HB2.out.size)) HR.out) (HBV.out (i : Int) (j : Int)))
          have HT := Lib.hid (preR_step l hij)
          have HIJ := Lib.hid hij; clear hij
          cases hb : besL l (i : Int) (j : Int) with
          | false =>
            rw [hb] at HC HT
            rw [if_neg (by decide), List.append_nil] at HT
            clear hb
            go_wp2_with fail
            refine HC.out.mono ?_; rintro e w' ⟨rfl, rfl⟩
            go_wp2_with fail
            clear c0
            go_roundg (300 - (j + 1))
            case measure => omega
            case rel => exact ⟨_, j + 1, rfl, by go_num, by have := HIJ.out; omega, by omega, rfl, HD, Lib.hid (by rw [HT.out]; exact HP_.out)⟩
          | true =>
            rw [hb] at HC HT
            rw [if_pos rfl] at HT
            clear hb
            have hlen : (preA l i ++ preR l i j).length < 1000000000 := by
              rw [List.length_append]
              have := preA_len l i; have := preR_len l (i := i) hj; omega
            obtain ⟨V', W5, q1, q2, q3, _⟩ := run_appL W4 26 26 Tryd.underlying26 (e' := 49) (L1 := []) (L2 := []) (y := (i : Int)) (z := (j : Int)) HP_.out hlen HD.out.size
            have Q1 := Lib.hid q1; have Q2 := Lib.hid q2; have Q3 := Lib.hid q3
            clear q1 q2 q3 hlen
            go_wp2_with fail
            refine HC.out.mono ?_; rintro e w' ⟨rfl, rfl⟩
            go_wp2_with (at_builtin; refine wp_appRun Q1.out rfl rfl rfl rfl ?_)
            clear c0
            go_roundg (300 - (j + 1))
            case measure => omega
            case rel => exact ⟨_, j + 1, rfl, by go_num, by have := HIJ.out; omega, by omega, rfl, Lib.hid (HD.out.trans Q3.out), Lib.hid (by rw [HT.out, ← List.append_assoc]; exact Q2.out)⟩
        · have : j = 8 := by omega
          subst this
          have HS := Lib.hid (preA_step l i)
          have HIJ := Lib.hid hij; clear hij
          go_wp2_with fail
          go_roundg (300 - (i + 1))
          case measure => omega
          case rel => exact ⟨_, i + 1, rfl, by go_num, by have := HIJ.out; omega, rfl, HD, Lib.hid (by rw [HS.out]; exact HP_.out)⟩
    · have : i = 8 := by omega
      subst this
      go_wp2_with fail
      go_ret
      exact ⟨_, rfl, Ow.ok.weak (HP_.out.get (List.Mem.head _)) (Nat.le_of_lt L1.out), HB2.out.trans (HD.out.mono HB2.out.size)⟩
end Go.Proofs.YthmfgnpkbcbkcaaDoor
