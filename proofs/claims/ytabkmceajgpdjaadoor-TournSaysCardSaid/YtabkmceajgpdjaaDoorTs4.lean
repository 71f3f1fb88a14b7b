import Derived.Test.YtabkmceajgpdjaaDoorTs3
import Derived.Test.YtabkmceajgpdjaaDoorTg
import Derived.Test.YtabkmceajgpdjaaDoorLp
/- TournSays -/
set_option linter.all false
set_option maxRecDepth 100000
namespace Go.Proofs.YtabkmceajgpdjaaDoor
open Go.RowKit Go.Shelf Pl To Hs
theorem mErr_self (c : Int) : mErr c c = some true := by unfold mErr; rw [decide_eq_true rfl]
theorem degrees_ev' (os : List Int) : R1_Degrees 300 os = some (scE os) := by
  unfold R1_Degrees scE
  by_cases h1 : os.length = 0
  · rw [if_pos (show ((os.length : Int) == 0) = true by rw [beq_iff_eq]; omega), if_pos h1]
  · rw [if_neg (show ¬ ((os.length : Int) == 0) = true by rw [beq_iff_eq]; omega), if_neg h1]
    by_cases h2 : 8 < os.length
    · rw [if_pos (show (8 : Int) < (os.length : Int) by omega), if_pos h2]
    · rw [if_neg (show ¬ (8 : Int) < (os.length : Int) by omega), if_neg h2, R1_All_ev _ _ (by omega) (by omega), Option.bind_some]
      by_cases h3 : allIn os 0 7 = true
      · rw [if_pos h3, if_pos h3]
      · rw [if_neg h3, if_neg h3]
/-! ### Landau's numbers -/
theorem smI_rowN : ∀ l : List Nat, smI (rowN l) = ((sm l : Nat) : Int)
  | [] => rfl
  | a :: l => by
    show (a : Int) + smI (rowN l) = ((a + sm l : Nat) : Int)
    rw [smI_rowN l]; omega
theorem c2_ch2 : ∀ j : Nat, j < 9 → c2 j = ((ch2 j : Nat) : Int) := by decide
theorem LI_okS {xs : List Nat} (h0 : 0 < xs.length) (h8 : xs.length ≤ 8) : LI (rowN xs) ↔ ∀ S, S < 2 ^ xs.length → okS xs S := by
  obtain ⟨ts, _, t2, t3⟩ := sort_rowN xs
  have htl := t2.length_eq
  rw [← lnd_iff h8 t2 t3 h0]
  have hp : (rowN ts).Perm (rowN xs) := t2.map _
  have hs : (rowN ts).Pairwise (· ≤ ·) := by
    unfold rowN; rw [List.pairwise_map]
    exact t3.imp fun h => by omega
  have h1 : LI (rowN xs) ↔ LI (rowN ts) := ⟨LI_perm hp.symm, LI_perm hp⟩
  have htk : ∀ j, (rowN ts).take j = rowN (ts.take j) := fun j => by unfold rowN; rw [List.map_take]
  rw [h1, LI_sorted hs, smI_rowN, rowN_len, c2_ch2 ts.length (by omega)]
  unfold lnd
  constructor
  · rintro ⟨q1, q2⟩
    refine ⟨fun j hj => ?_, by omega⟩
    have := q1 (j+1) (by omega)
    rw [htk, smI_rowN, c2_ch2 (j+1) (by omega)] at this; omega
  · rintro ⟨q1, q2⟩
    refine ⟨fun j hj => ?_, by omega⟩
    rw [htk, smI_rowN, c2_ch2 j (by omega)]
    match j, hj with
    | 0, _ => simp [ch2]
    | j+1, hj => have := q1 j (by omega); omega
/-! ### the document's rows -/
section
variable {k : Nat} {l : List (Int × Int)}
theorem ts_L3 (h24 : l.length ≤ 24) (h8 : k ≤ 8) (i j : Nat) : ∀ (g m : Nat) (c : Bool), k < m + g → m ≤ k →
    ∃ r x, L4_TournSays_L3 300 (k : Int) l (i : Int) (j : Int) g c (m : Int) = some (r, x) ∧ (r = true ↔ c = true ∨ ∃ x, m ≤ x ∧ x < k ∧ gL l i x = true ∧ gL l x j = true)
  | 0, m, c, h, hm => by omega
  | g+1, m, c, h, hm => by
    rw [L4_TournSays_L3_s]
    by_cases hc : m < k
    · have e1 : R1_Goes 300 l (i : Int) (m : Int) = some (gL l i m) := R1_Goes_ev _ _ (by omega) (by omega)
      have e2 : R1_Goes 300 l (m : Int) (j : Int) = some (gL l m j) := R1_Goes_ev _ _ (by omega) (by omega)
      have e : (if c = true then some true else (R1_Goes 300 l (i : Int) (m : Int)).bind fun y9 => if y9 = true then (R1_Goes 300 l (m : Int) (j : Int)).bind fun y10 => if y10 = true then some true else some false else some false) = some (c || (gL l i m && gL l m j)) := by
        rw [e1, Option.bind_some, e2]
        cases c <;> cases gL l i m <;> cases gL l m j <;> rfl
      rw [if_pos (by omega), e, Option.bind_some, w64n (by omega)]
      obtain ⟨r, x, r1, r2⟩ := ts_L3 h24 h8 i j g (m+1) (c || (gL l i m && gL l m j)) (by omega) (by omega)
      refine ⟨r, x, r1, r2.trans ?_⟩
      rw [Bool.or_eq_true, Bool.and_eq_true]
      constructor
      · rintro ((q | q) | ⟨x, q1, q2, q3⟩)
        · exact .inl q
        · exact .inr ⟨m, Nat.le_refl _, hc, q⟩
        · exact .inr ⟨x, by omega, q2, q3⟩
      · rintro (q | ⟨x, q1, q2, q3⟩)
        · exact .inl (.inl q)
        · by_cases e : x = m
          · subst e; exact .inl (.inr q3)
          · exact .inr ⟨x, by omega, q2, q3⟩
    · rw [if_neg (by omega)]
      exact ⟨c, _, rfl, ⟨.inl, fun q => q.elim id fun ⟨x, q1, q2, _⟩ => by omega⟩⟩
def ovr (k : Nat) (l : List (Int × Int)) (i u : Nat) : Prop := u = i ∨ gL l i u = true ∨ ∃ x, gL l i x = true ∧ gL l x u = true
theorem ts_L2 (h24 : l.length ≤ 24) (h8 : k ≤ 8) (hin : InL k l) (i : Nat) : ∀ (g j : Nat) (c : Bool), k < j + g → j ≤ k →
    ∃ r x, L4_TournSays_L2 300 (k : Int) l (i : Int) g ((((List.range j).filter (gL l i)).length : Nat) : Int) c (j : Int) = some (((sc l k i : Nat) : Int), r, x) ∧ (r = true ↔ c = true ∧ ∀ u, j ≤ u → u < k → ovr k l i u)
  | 0, j, c, h, hj => by omega
  | g+1, j, c, h, hj => by
    rw [L4_TournSays_L2_s]
    by_cases hc : j < k
    · have e1 : R1_Goes 300 l (i : Int) (j : Int) = some (gL l i j) := R1_Goes_ev _ _ (by omega) (by omega)
      have eb : (if ((i : Int) == (j : Int)) = true then some true else (R1_Goes 300 l (i : Int) (j : Int)).bind fun y7 => if y7 = true then some true else some false) = some (decide (i = j) || gL l i j) := by
        rw [e1, Option.bind_some]
        by_cases e : i = j
        · rw [if_pos (by rw [beq_iff_eq]; omega), decide_eq_true e]; rfl
        · rw [if_neg (by rw [beq_iff_eq]; omega), decide_eq_false e]
          cases gL l i j <;> rfl
      obtain ⟨o, x, o1, o2⟩ := ts_L3 h24 h8 i j 300 0 (decide (i = j) || gL l i j) (by omega) (Nat.zero_le _)
      have ho : o = true ↔ ovr k l i j := by
        rw [o2, Bool.or_eq_true, decide_eq_true_eq]
        unfold ovr
        constructor
        · rintro ((q | q) | ⟨x, _, _, q⟩)
          · exact .inl q.symm
          · exact .inr (.inl q)
          · exact .inr (.inr ⟨x, q⟩)
        · rintro (q | q | ⟨x, q1, q2⟩)
          · exact .inl (.inl q.symm)
          · exact .inl (.inr q)
          · exact .inr ⟨x, Nat.zero_le _, (gL_lt hin q1).2, q1, q2⟩
      have ek : (if c = true then if o = true then some true else some false else some false) = some (c && o) := by cases c <;> cases o <;> rfl
      have hnext : ∀ (r : Bool), (r = true ↔ (c && o) = true ∧ ∀ u, j + 1 ≤ u → u < k → ovr k l i u) → (r = true ↔ c = true ∧ ∀ u, j ≤ u → u < k → ovr k l i u) := fun r hr => by
        rw [hr, Bool.and_eq_true, ho]
        constructor
        · rintro ⟨⟨q1, q2⟩, q3⟩
          refine ⟨q1, fun u h1 h2 => ?_⟩
          by_cases e : u = j
          · subst e; exact q2
          · exact q3 u (by omega) h2
        · rintro ⟨q1, q2⟩
          exact ⟨⟨q1, q2 j (Nat.le_refl _) hc⟩, fun u h1 h2 => q2 u (by omega) h2⟩
      obtain ⟨r, x', r1, r2⟩ := ts_L2 h24 h8 hin i g (j+1) (c && o) (by omega) (by omega)
      have hlen : ((List.range j).filter (gL l i)).length ≤ j := by have := List.length_filter_le (gL l i) (List.range j); rw [List.length_range] at this; exact this
      rw [List.range_succ, List.filter_append, List.length_append] at r1
      refine ⟨r, x', ?_, hnext r r2⟩
      rw [if_pos (by omega), e1, Option.bind_some]
      have o1' : L4_TournSays_L3 300 (k : Int) l (i : Int) (j : Int) 300 (decide (i = j) || gL l i j) 0 = some (o, x) := o1
      rw [e1] at eb
      cases e : gL l i j
      · rw [e] at eb o1'
        rw [if_neg (by decide), eb, Option.bind_some, o1', Option.bind_some]
        dsimp only
        rw [ek, Option.bind_some, w64n (by omega)]
        rw [List.filter_cons_of_neg (by simp [e])] at r1
        exact r1
      · rw [e] at eb o1'
        rw [if_pos rfl, eb, Option.bind_some, o1', Option.bind_some]
        dsimp only
        rw [ek, Option.bind_some, w64n (by omega), w64n (by omega)]
        rw [List.filter_cons_of_pos e] at r1
        exact r1
    · have : j = k := by omega
      subst this
      rw [if_neg (by omega)]
      exact ⟨c, _, rfl, ⟨fun h => ⟨h, fun u h1 h2 => by omega⟩, fun h => h.1⟩⟩
theorem ts_L4 (h24 : l.length ≤ 24) (i : Nat) {row : List Nat} (hr : row.length ≤ 100) : ∀ (g j : Nat), row.length < j + g → j ≤ row.length → (∀ q, q < j → ∀ h : q < row.length, gL l i row[q] = false) →
    L4_TournSays_L4 300 l (rowN row) (i : Int) g (j : Int) = some ((row.findIdx (gL l i) : Nat) : Int)
  | 0, j, h, hj, _ => by omega
  | g+1, j, h, hj, hq => by
    rw [L4_TournSays_L4_s, rowN_len]
    by_cases c : j < row.length
    · have hix : ix (rowN row) (j : Int) = some ((row[j] : Nat) : Int) := by unfold rowN; rw [ix_nat (by rw [List.length_map]; exact c), List.getElem_map]
      have e1 : R1_Goes 300 l (i : Int) ((row[j] : Nat) : Int) = some (gL l i row[j]) := R1_Goes_ev _ _ (by omega) (by omega)
      rw [if_pos (by omega), hix, Option.bind_some, e1, Option.bind_some]
      cases e : gL l i row[j]
      · rw [if_neg (by decide), Option.bind_some, if_pos rfl, w64n (by omega)]
        refine ts_L4 h24 i hr g (j+1) (by omega) (by omega) fun q q1 q2 => ?_
        by_cases eq : q = j
        · subst eq; exact e
        · exact hq q (by omega) q2
      · rw [if_pos rfl, Option.bind_some, if_neg (by decide)]
        have : row.findIdx (gL l i) = j := (List.findIdx_eq c).2 ⟨e, fun q hqj => hq q hqj (by omega)⟩
        rw [this]
    · have : j = row.length := by omega
      subst this
      rw [if_neg (by omega), Option.bind_some, if_neg (by decide)]
      have : row.findIdx (gL l i) = row.length := List.findIdx_eq_length.2 fun x hx => by
        obtain ⟨q, q1, rfl⟩ := List.getElem_of_mem hx
        exact hq q q1 q1
      rw [this]
theorem ts_L1 (h24 : l.length ≤ 24) (h8 : k ≤ 8) (hin : InL k l) : ∀ (g i : Nat), k < i + g → i ≤ k →
    ∃ x, L4_TournSays_L1 300 (k : Int) l 0 g (rowN ((List.range i).map (sc l k))) (rowN (rowT (gL l) i)) (rowN ((List.range i).filter (isK k l))) (i : Int) = some (rowN ((List.range k).map (sc l k)), rowN (rowT (gL l) k), rowN ((List.range k).filter (isK k l)), x)
  | 0, i, h, hi => by omega
  | g+1, i, h, hi => by
    rw [L4_TournSays_L1_s]
    by_cases c : i < k
    · obtain ⟨r, x, r1, r2⟩ := ts_L2 h24 h8 hin i 300 0 true (by omega) (Nat.zero_le _)
      have hrk : r = isK k l i := by
        rw [Bool.eq_iff_iff, r2, isK_iff h8 hin c]
        unfold King ovr
        constructor
        · rintro ⟨_, q⟩; exact ⟨c, fun u hu => q u (Nat.zero_le _) hu⟩
        · rintro ⟨_, q⟩; exact ⟨rfl, fun u _ hu => q u hu⟩
      have hrl : (rowT (gL l) i).length = i := by rw [(rowT_perm (gL l) i).length_eq, List.length_range]
      have hat := ts_L4 h24 i (row := rowT (gL l) i) (by omega) 300 0 (by omega) (Nat.zero_le _) fun q hq => by omega
      obtain ⟨a, ha⟩ : ∃ a, (rowT (gL l) i).findIdx (gL l i) = a := ⟨_, rfl⟩
      have hal : a ≤ (rowT (gL l) i).length := by rw [← ha]; exact List.findIdx_le_length
      have hput : rowT (gL l) (i+1) = (rowT (gL l) i).take a ++ i :: (rowT (gL l) i).drop a := by
        show put (gL l i) i (rowT (gL l) i) = _
        rw [put_eq, ha]
      rw [ha] at hat
      have e1 : app (rowN ((List.range i).map (sc l k))) ((sc l k i : Nat) : Int) = some (rowN ((List.range (i+1)).map (sc l k))) := by
        unfold app; rw [if_pos (by rw [rowN_len]; simp; omega), List.range_succ, List.map_append]; unfold rowN; rw [List.map_append]; rfl
      have e2 : tk (rowN (rowT (gL l) i)) (a : Int) = some (rowN ((rowT (gL l) i).take a)) := by
        unfold tk; rw [if_pos (by rw [rowN_len]; omega), Int.toNat_natCast]; unfold rowN; rw [List.map_take]
      have e3 : appL [] (rowN ((rowT (gL l) i).take a)) = some (rowN ((rowT (gL l) i).take a)) := by
        unfold appL; rw [if_pos (by rw [rowN_len, List.length_take]; simp; omega)]; rfl
      have e4 : app (rowN ((rowT (gL l) i).take a)) (i : Int) = some (rowN ((rowT (gL l) i).take a ++ [i])) := by
        unfold app; rw [if_pos (by rw [rowN_len, List.length_take]; omega)]; unfold rowN; rw [List.map_append]; rfl
      have e5 : dr (rowN (rowT (gL l) i)) (a : Int) = some (rowN ((rowT (gL l) i).drop a)) := by
        unfold dr; rw [if_pos (by rw [rowN_len]; omega), Int.toNat_natCast]; unfold rowN; rw [List.map_drop]
      have e6 : appL (rowN ((rowT (gL l) i).take a ++ [i])) (rowN ((rowT (gL l) i).drop a)) = some (rowN (rowT (gL l) (i+1))) := by
        unfold appL; rw [if_pos (by rw [rowN_len, rowN_len]; simp; omega), hput]; unfold rowN; rw [← List.map_append, List.append_assoc]; rfl
      have e7 : app (rowN ((List.range i).filter (isK k l))) (i : Int) = some (rowN ((List.range i).filter (isK k l) ++ [i])) := by
        have := List.length_filter_le (isK k l) (List.range i)
        rw [List.length_range] at this
        unfold app; rw [if_pos (by rw [rowN_len]; omega)]; unfold rowN; rw [List.map_append]; rfl
      obtain ⟨x2, hx2⟩ := ts_L1 h24 h8 hin g (i+1) (by omega) (by omega)
      refine ⟨x2, ?_⟩
      rw [if_pos (by omega), if_pos (show ((0 : Int) == 0) = true from rfl), Option.bind_some, if_pos rfl, show L4_TournSays_L2 300 (k : Int) l (i : Int) 300 0 true 0 = _ from r1, Option.bind_some]
      dsimp only
      have hat' : L4_TournSays_L4 300 l (rowN (rowT (gL l) i)) (i : Int) 300 0 = some (a : Int) := hat
      rw [e1, Option.bind_some, hrk, hat']
      cases e : isK k l i
      · rw [if_neg (by decide), Option.bind_some, e2, Option.bind_some, e3, Option.bind_some, e4, Option.bind_some, e5, Option.bind_some, e6, Option.bind_some, w64n (by omega)]
        have hf : (List.range (i+1)).filter (isK k l) = (List.range i).filter (isK k l) := by
          rw [List.range_succ, List.filter_append, List.filter_cons_of_neg (by simp [e])]; simp
        rw [hf] at hx2; exact hx2
      · rw [if_pos rfl, e7, Option.bind_some, Option.bind_some, e2, Option.bind_some, e3, Option.bind_some, e4, Option.bind_some, e5, Option.bind_some, e6, Option.bind_some, w64n (by omega)]
        have hf : (List.range (i+1)).filter (isK k l) = (List.range i).filter (isK k l) ++ [i] := by
          rw [List.range_succ, List.filter_append, List.filter_cons_of_pos e]; rfl
        rw [hf] at hx2; exact hx2
    · have : i = k := by omega
      subst this
      rw [if_neg (by omega), Option.bind_some, if_neg (by decide)]
      exact ⟨_, rfl⟩
theorem says_of {n : Int} {os : List Int} {e : Int} {L1 L2 L3 : List Int} {x : Int} (h1 : R3_Tourn 300 n l = some e) (h2 : tourn_Check 300 n l = some e) (h3 : L4_TournSays_L1 300 n l e 300 [] [] [] 0 = some (L1, L2, L3, x))
    (h4 : tourn_Scores 300 n l = some (L1, e)) (h5 : tourn_Row 300 n l = some (L2, e)) (h6 : tourn_Kings 300 n l = some (L3, e)) (b1 : L1.length < 300) (b2 : L2.length < 300) (b3 : L3.length < 300)
    {d : Int} {b : Bool} (h7 : R1_Degrees 300 os = some d) (h8 : tourn_Can 300 os = some (b, d)) (h9 : (if (d == 0) = true then (R3_Scored 300 300 os).bind fun y57 => if y57 = true then some true else some false else some false) = some b) : L4_TournSays 300 n l os = some true := by
  unfold L4_TournSays
  rw [h1, Option.bind_some, h2, Option.bind_some, mErr_self, Option.bind_some, h3, Option.bind_some, h4, Option.bind_some]
  dsimp only
  rw [mErr_self, Option.bind_some, if_pos rfl, SE_Ints_ev b1 (by omega), decide_eq_true rfl, Option.bind_some, if_pos rfl, Option.bind_some, h5, Option.bind_some]
  dsimp only
  rw [mErr_self, Option.bind_some, if_pos rfl, SE_Ints_ev b2 (by omega), decide_eq_true rfl, Option.bind_some, if_pos rfl, Option.bind_some, h6, Option.bind_some]
  dsimp only
  rw [mErr_self, Option.bind_some, if_pos rfl, SE_Ints_ev b3 (by omega), decide_eq_true rfl, Option.bind_some, if_pos rfl, Option.bind_some, h7, Option.bind_some, h8, Option.bind_some]
  dsimp only
  rw [if_pos rfl, Option.bind_some, if_pos rfl, Option.bind_some, if_pos rfl, Option.bind_some, if_pos rfl, mErr_self, Option.bind_some, if_pos rfl, Option.bind_some, if_pos rfl, h9, Option.bind_some, if_pos (by rw [beq_self_eq_true]), Option.bind_some]
theorem tsays_ev {n : Int} {l : List (Int × Int)} (hg : good n l) (os : List Int) : L4_TournSays 300 n l os = some true := by
  obtain ⟨e, hc, hE⟩ := check_ev hg
  have h1 := tourn3_ev hg hE
  -- the numbers
  have hD := degrees_ev' os
  have hC : ∃ b, tourn_Can 300 os = some (b, scE os) ∧ (if (scE os == 0) = true then (R3_Scored 300 300 os).bind fun y57 => if y57 = true then some true else some false else some false) = some b := by
    by_cases h : scE os = 0
    · obtain ⟨xs, hx⟩ := scE_zero h
      obtain ⟨b, c1, c2'⟩ := can_ok hx
      obtain ⟨he, h0, h8, h7⟩ := hx
      obtain ⟨b', s1, s2⟩ := scored_ev xs.length 300 os (by rw [he, rowN_len]) (by omega) (by omega) fun y hy => by
        rw [he] at hy
        obtain ⟨z, hz, rfl⟩ := List.mem_map.1 hy
        have := h7 z hz; omega
      have hbb : b' = b := by
        rw [Bool.eq_iff_iff, s2, c2', he, LI_okS h0 h8]
      subst hbb
      refine ⟨b', by rw [h]; exact c1, ?_⟩
      rw [if_pos (by rw [beq_iff_eq]; exact h), s1, Option.bind_some]; cases b' <;> rfl
    · exact ⟨false, can_bad h, if_neg (by rw [beq_iff_eq]; exact h)⟩
  obtain ⟨b, hC1, hC2⟩ := hC
  by_cases h : e = 0
  · subst h
    obtain ⟨k, rfl, k1, h8, h24, hin, he, hT, _⟩ := ck_zero hE
    obtain ⟨x, hx⟩ := ts_L1 h24 h8 hin 300 0 (by omega) (Nat.zero_le _)
    have q4 := (scores_ev hg hc hE).resolve_left fun q => q.1 rfl
    have q5 := (row_ev hg hc hE).resolve_left fun q => q.1 rfl
    have q6 := (kings_ev hg hc hE).resolve_left fun q => q.1 rfl
    have hf := List.length_filter_le (isK k l) (List.range k)
    rw [List.length_range] at hf
    exact says_of h1 hc hx (q4.2 k rfl) (q5.2 k rfl) (q6.2 k rfl) (by rw [rowN_len]; simp; omega) (by rw [rowN_len, (rowT_perm (gL l) k).length_eq]; simp; omega) (by rw [rowN_len]; omega) hD hC1 hC2
  · have q4 := (scores_ev hg hc hE).resolve_right fun q => h q.1
    have q5 := (row_ev hg hc hE).resolve_right fun q => h q.1
    have q6 := (kings_ev hg hc hE).resolve_right fun q => h q.1
    have hx : L4_TournSays_L1 300 n l e 300 [] [] [] 0 = some ([], [], [], 0) := by
      rw [L4_TournSays_L1_s]
      by_cases c : 0 < n
      · rw [if_pos c, if_neg (by rw [beq_iff_eq]; exact h), Option.bind_some, if_neg (by decide)]
      · rw [if_neg c, Option.bind_some, if_neg (by decide)]
    exact says_of h1 hc hx q4.2 q5.2 q6.2 (by simp) (by simp) (by simp) hD hC1 hC2
end
theorem tournSays_any (w : World) (htc : TyCell w) (n : Int) (hn : (Lit.int .i64 n).wf = true) (A : Option Addr) (cap : Nat) (l : List (Int × Int)) (hr : ReadsL w w.heap.size A l) (hl : l.length ≤ maxLen)
    (A2 : Option Addr) (cap2 : Nat) (os : List Int) (hr2 : ReadsI w w.heap.size A2 os ∧ os.length ≤ maxLen ∧ ∀ x ∈ os, (Lit.int .i64 x).wf = true) :
    Calls Tryd.prog 3 #[.int .i64 n, .slice A l.length cap, .slice A2 os.length cap2] w fun e w' => e = .returned (.bool true) ∧ Below w.heap.size w w' :=
  L4_TournSays_ok w htc cap hr cap2 hr2.1 (tsays_ev ⟨hn, hl⟩ os)
end Go.Proofs.YtabkmceajgpdjaaDoor
