import Derived.Test.YtcbalejnkhnppaaDoorHq
/- plain: ChordalRings holds -/
set_option linter.all false
set_option maxRecDepth 100000
namespace Go.Proofs.YtcbalejnkhnppaaDoor
open Go.RowKit Go.Shelf Pl
theorem cr_fact : L3_chordalFact 300 = some true := by decide +kernel
/-- the lines of a point to those of a row from j on -/
def edg (l : List (Int × Int)) (m : List Nat) (v j : Nat) : List (Int × Int) := ((m.drop j).filter (aL l v)).map fun (u : Nat) => ((v : Int), (u : Int))
theorem cr_L3 {l : List (Int × Int)} (hl : l.length ≤ 24) {m : List Nat} (hm : m.length ≤ 16) {i : Nat} (hi : i < m.length) : ∀ (g j n : Nat) (o : List (Int × Int)), m.length < j + g → j ≤ m.length → n ≤ j → o.length ≤ 16 * i + j →
    ∃ x, L3_ChordalRings_L3 300 l (rowN m) (i : Int) g o (n : Int) (j : Int) = some (o ++ edg l m (m.getD i 0) j, ((n + ((m.drop j).filter (aL l (m.getD i 0))).length : Nat) : Int), x)
  | 0, j, n, o, h, hj, _, _ => by omega
  | g+1, j, n, o, h, hj, hn, ho => by
    have hlen : (rowN m).length = m.length := by unfold rowN; rw [List.length_map]
    rw [L3_ChordalRings_L3_s, hlen]
    by_cases hlt : j < m.length
    · have i1 : ix (rowN m) (i : Int) = some ((m.getD i 0 : Nat) : Int) := ix_map hi
      have i2 : ix (rowN m) (j : Int) = some ((m.getD j 0 : Nat) : Int) := ix_map hlt
      have hb : R1_Beside 300 l ((m.getD i 0 : Nat) : Int) ((m.getD j 0 : Nat) : Int) = some (aL l (m.getD i 0) (m.getD j 0)) := R1_Beside_ev _ _ (by omega) (by omega)
      have hd : m.drop j = m.getD j 0 :: m.drop (j+1) := by rw [List.drop_eq_getElem_cons hlt]; simp [List.getD, hlt]
      rw [if_pos (by omega), i1, i2]
      simp only [Option.bind_some]
      rw [hb, Option.bind_some, w64n (by omega), w64n (by omega)]
      unfold edg
      rw [hd, List.filter_cons]
      cases c : aL l (m.getD i 0) (m.getD j 0)
      · rw [if_neg (by decide), if_neg (by decide)]
        exact cr_L3 hl hm hi g (j+1) n o (by omega) (by omega) (by omega) (by omega)
      · rw [if_pos rfl, if_pos rfl]
        unfold app
        rw [if_pos (by omega), Option.bind_some]
        obtain ⟨x, hx⟩ := cr_L3 hl hm hi g (j+1) (n+1) (o ++ [(((m.getD i 0 : Nat) : Int), ((m.getD j 0 : Nat) : Int))]) (by omega) (by omega) (by omega) (by rw [List.length_append, List.length_singleton]; omega)
        unfold edg at hx
        refine ⟨x, ?_⟩
        rw [hx, List.map_cons, List.append_assoc, List.length_cons]
        congr 3
        omega
    · have : j = m.length := by omega
      subst this
      rw [if_neg (by omega)]
      unfold edg
      rw [List.drop_length]
      exact ⟨_, by simp; rfl⟩
theorem cr_L2 {l : List (Int × Int)} (hl : l.length ≤ 24) {m : List Nat} (hm : m.length ≤ 16) : ∀ (g i : Nat) (f : Bool) (o : List (Int × Int)), m.length < i + g → i ≤ m.length → o.length ≤ 16 * i →
    ∃ o' x, L3_ChordalRings_L2 300 l (rowN m) g f o (i : Int) = some ((f && (m.drop i).all fun v => decide ((m.filter (aL l v)).length = 2)), o', x) ∧ o'.length ≤ 16 * m.length ∧ ∀ p, p ∈ o' ↔ p ∈ o ∨ ∃ u v, u ∈ m.drop i ∧ v ∈ m ∧ aL l u v = true ∧ p = ((u : Int), (v : Int))
  | 0, i, f, o, h, hi, _ => by omega
  | g+1, i, f, o, h, hi, ho => by
    have hlen : (rowN m).length = m.length := by unfold rowN; rw [List.length_map]
    rw [L3_ChordalRings_L2_s, hlen]
    by_cases hlt : i < m.length
    · obtain ⟨x, hx⟩ := cr_L3 hl hm hlt 300 0 0 o (by omega) (by omega) (by omega) (by omega)
      have hd : m.drop i = m.getD i 0 :: m.drop (i+1) := by rw [List.drop_eq_getElem_cons hlt]; simp [List.getD, hlt]
      rw [List.drop_zero, Nat.zero_add] at hx
      have hel : (edg l m (m.getD i 0) 0).length ≤ 16 := by
        unfold edg
        rw [List.length_map, List.drop_zero]
        have := List.length_filter_le (aL l (m.getD i 0)) m; omega
      have hem : ∀ p, p ∈ edg l m (m.getD i 0) 0 ↔ ∃ v, v ∈ m ∧ aL l (m.getD i 0) v = true ∧ p = (((m.getD i 0 : Nat) : Int), (v : Int)) := fun p => by
        unfold edg
        rw [List.mem_map, List.drop_zero]
        constructor
        · rintro ⟨v, hv, rfl⟩
          obtain ⟨h1, h2⟩ := List.mem_filter.1 hv
          exact ⟨v, h1, h2, rfl⟩
        · rintro ⟨v, h1, h2, rfl⟩
          exact ⟨v, List.mem_filter.2 ⟨h1, h2⟩, rfl⟩
      have step : ∀ b : Bool, ∃ o' x, L3_ChordalRings_L2 300 l (rowN m) g b (o ++ edg l m (m.getD i 0) 0) ((i + 1 : Nat) : Int) = some ((b && (m.drop (i+1)).all fun v => decide ((m.filter (aL l v)).length = 2)), o', x) ∧ o'.length ≤ 16 * m.length ∧ ∀ p, p ∈ o' ↔ p ∈ o ∨ ∃ u v, u ∈ m.drop i ∧ v ∈ m ∧ aL l u v = true ∧ p = ((u : Int), (v : Int)) := fun b => by
        obtain ⟨o', y, y1, y2, y3⟩ := cr_L2 hl hm g (i+1) b (o ++ edg l m (m.getD i 0) 0) (by omega) (by omega) (by rw [List.length_append]; omega)
        refine ⟨o', y, y1, y2, fun p => ?_⟩
        rw [y3, List.mem_append, hem, hd]
        constructor
        · rintro ((h | ⟨v, h1, h2, h3⟩) | ⟨u, v, h1, h2, h3⟩)
          · exact .inl h
          · exact .inr ⟨_, v, List.mem_cons_self, h1, h2, h3⟩
          · exact .inr ⟨u, v, List.mem_cons_of_mem _ h1, h2, h3⟩
        · rintro (h | ⟨u, v, h1, h2, h3, h4⟩)
          · exact .inl (.inl h)
          · rcases List.mem_cons.1 h1 with rfl | h1
            · exact .inl (.inr ⟨v, h2, h3, h4⟩)
            · exact .inr ⟨u, v, h1, h2, h3, h4⟩
      rw [if_pos (by omega), show L3_ChordalRings_L3 300 l (rowN m) (i : Int) 300 o 0 0 = _ from hx, Option.bind_some, w64n (by omega), hd, List.all_cons]
      rw [hd] at step
      dsimp only
      cases f
      · rw [if_neg (by decide), Option.bind_some]
        have q := step false
        rw [Bool.false_and] at q ⊢
        exact q
      · rw [if_pos rfl]
        by_cases c : (m.filter (aL l (m.getD i 0))).length = 2
        · rw [c, if_pos (by decide), Option.bind_some]
          have q := step true
          rw [Bool.true_and] at q
          rw [Bool.true_and, show decide ((2 : Nat) = 2) = true from rfl, Bool.true_and]
          exact q
        · rw [if_neg (by rw [beq_iff_eq]; omega), Option.bind_some]
          have q := step false
          rw [Bool.false_and] at q
          rw [Bool.true_and, decide_eq_false c, Bool.false_and]
          exact q
    · have : i = m.length := by omega
      subst this
      rw [if_neg (by omega)]
      exact ⟨o, _, by simp; rfl, by omega, fun p => by simp⟩
theorem cr_L4 {k : Nat} {M : List (List Int)} (hM : Sh k M) {m : List Nat} (hm : ∀ x ∈ m, x < k) (h0 : 0 < m.length) (hl : m.length ≤ 16) : ∀ (g i : Nat) (f : Bool), m.length < i + g → i ≤ m.length →
    ∃ x, L3_ChordalRings_L4 300 (rowN m) M g f (i : Int) = some ((f && (m.drop i).all fun v => decide (0 ≤ ent M (m.getD 0 0) v)), x)
  | 0, i, f, h, hi => by omega
  | g+1, i, f, h, hi => by
    have hlen : (rowN m).length = m.length := by unfold rowN; rw [List.length_map]
    rw [L3_ChordalRings_L4_s, hlen]
    by_cases hlt : i < m.length
    · have hd : m.drop i = m.getD i 0 :: m.drop (i+1) := by rw [List.drop_eq_getElem_cons hlt]; simp [List.getD, hlt]
      have hk0 : m.getD 0 0 < k := by
        have : m.getD 0 0 = m[0] := by simp [List.getD, h0]
        rw [this]; exact hm _ (List.getElem_mem _)
      have hki : m.getD i 0 < k := by
        have : m.getD i 0 = m[i] := by simp [List.getD, hlt]
        rw [this]; exact hm _ (List.getElem_mem _)
      have i0 : ix (rowN m) 0 = some ((m.getD 0 0 : Nat) : Int) := ix_map (j := 0) h0
      have i1 : ix (rowN m) (i : Int) = some ((m.getD i 0 : Nat) : Int) := ix_map hlt
      rw [if_pos (by omega), w64n (by omega), hd, List.all_cons]
      cases f
      · obtain ⟨x, hx⟩ := cr_L4 hM hm h0 hl g (i+1) false (by omega) (by omega)
        rw [if_neg (by decide), Option.bind_some, hx]
        exact ⟨x, by rw [Bool.false_and, Bool.false_and]⟩
      · rw [if_pos rfl, i0, Option.bind_some, hM.ix hk0, Option.bind_some, i1, Option.bind_some, hM.ix2 hk0 hki, Option.bind_some]
        by_cases c : 0 ≤ ent M (m.getD 0 0) (m.getD i 0)
        · obtain ⟨x, hx⟩ := cr_L4 hM hm h0 hl g (i+1) true (by omega) (by omega)
          rw [if_pos c, Option.bind_some, hx, decide_eq_true c]
          exact ⟨x, by simp⟩
        · obtain ⟨x, hx⟩ := cr_L4 hM hm h0 hl g (i+1) false (by omega) (by omega)
          rw [if_neg c, Option.bind_some, hx, decide_eq_false c]
          exact ⟨x, by simp⟩
    · have : i = m.length := by omega
      subst this
      rw [if_neg (by omega), List.drop_length]
      exact ⟨_, by simp; rfl⟩
theorem far_reach {k : Nat} {a : Nat → Nat → Bool} {S s : Nat} {A : Nat → Nat → Prop} {row : List Int} (hA : ∀ u v, A u v ↔ S.testBit u = true ∧ S.testBit v = true ∧ a u v = true) (hS : S < 2 ^ k) (hs : S.testBit s = true) (F : Far k A s row) (v : Nat) (hv : S.testBit v = true) :
    0 ≤ row.getD v 0 ↔ ∃ n, WU a (inS S) n s v := by
  constructor
  · have key : ∀ (n : Nat) (v : Nat), v < k → S.testBit v = true → row.getD v 0 = (n : Int) → ∃ n, WU a (inS S) n s v := by
      intro n
      induction n with
      | zero =>
        intro v hv hvS e
        rcases F.down v hv (by omega) with rfl | ⟨i, h1, h2, h3, h4⟩
        · exact ⟨0, WU.nil hvS⟩
        · omega
      | succ n ih =>
        intro v hv hvS e
        rcases F.down v hv (by omega) with rfl | ⟨i, h1, h2, h3, h4⟩
        · exact ⟨0, WU.nil hvS⟩
        · obtain ⟨q1, q2, q3⟩ := (hA i v).1 h2
          obtain ⟨m, hm⟩ := ih i h1 q1 (by omega)
          exact ⟨m + 1, hm.snoc q3 hvS⟩
    intro h
    exact key (row.getD v 0).toNat v (bitLt hS hv) hv (Int.toNat_of_nonneg h).symm
  · rintro ⟨n, hn⟩
    have := closed_walk (K := fun z => S.testBit z = true ∧ 0 ≤ row.getD z 0) (fun z z' ⟨h1, h2⟩ _ h4 e => ⟨h4, (F.step z z' (bitLt hS h1) h2 ((hA z z').2 ⟨h1, h4, e⟩)).1⟩) hn ⟨hs, by rw [F.start]; exact Int.le_refl 0⟩
    exact this.2
theorem cr_L1 {l : List (Int × Int)} (hl : l.length ≤ 24) {k : Nat} (h8 : k ≤ 8) : ∀ (g S : Nat) (f : Bool), 2 ^ k < S + g → S ≤ 2 ^ k →
    ∃ f' x, L3_ChordalRings_L1 300 (k : Int) l g f (S : Int) = some (f', x) ∧ (f' = true ↔ f = true ∨ ∃ T, S ≤ T ∧ T < 2 ^ k ∧ Hole (aL l) T)
  | 0, S, f, h, hS => by omega
  | g+1, S, f, h, hS => by
    have hp := Nat.pow_le_pow_right (n := 2) (by omega) h8
    rw [L3_ChordalRings_L1_s, R3_Power_ev k h8, Option.bind_some]
    by_cases hlt : S < 2 ^ k
    · have hS16 : S < 65536 := by omega
      have hmm : (memb S).map Int.ofNat = rowN (memb S) := rfl
      have hlen : (rowN (memb S)).length = (memb S).length := by unfold rowN; rw [List.length_map]
      have hm16 := memb_len16 S
      have fin : ∀ b : Bool, (b = true ↔ f = true ∨ Hole (aL l) S) → ∃ f' x, L3_ChordalRings_L1 300 (k : Int) l g b ((S + 1 : Nat) : Int) = some (f', x) ∧ (f' = true ↔ f = true ∨ ∃ T, S ≤ T ∧ T < 2 ^ k ∧ Hole (aL l) T) := fun b hb => by
        obtain ⟨f', x, q1, q2⟩ := cr_L1 hl h8 g (S+1) b (by omega) (by omega)
        refine ⟨f', x, q1, ?_⟩
        rw [q2, hb]
        constructor
        · rintro ((h | h) | ⟨T, h1, h2, h3⟩)
          · exact .inl h
          · exact .inr ⟨S, Nat.le_refl _, hlt, h⟩
          · exact .inr ⟨T, by omega, h2, h3⟩
        · rintro (h | ⟨T, h1, h2, h3⟩)
          · exact .inl (.inl h)
          · by_cases e : T = S
            · subst e; exact .inl (.inr h3)
            · exact .inr ⟨T, by omega, h2, h3⟩
      rw [if_pos (by omega), R3_Members_ev S (by omega), Option.bind_some, hmm, hlen, w64n (by omega)]
      by_cases c4 : (memb S).length < 4
      · rw [if_pos (by omega)]
        exact fin f ⟨.inl, fun h => h.elim id fun H => by have := H.1; omega⟩
      · obtain ⟨o, x, o1, o2, o3⟩ := cr_L2 (l := l) hl (m := memb S) hm16 300 0 true [] (by omega) (by omega) (by simp)
        rw [if_neg (by omega), show L3_ChordalRings_L2 300 l (rowN (memb S)) 300 true [] 0 = _ from o1, Option.bind_some, List.drop_zero, Bool.true_and]
        dsimp only
        by_cases c2 : ((memb S).all fun v => decide (((memb S).filter (aL l v)).length = 2)) = true
        · have hdg : ∀ v, S.testBit v = true → dgS (aL l) S v = 2 := fun v hv => of_decide_eq_true (List.all_eq_true.1 c2 v ((mem_memb hS16).2 hv))
          have hmk : ∀ x ∈ memb S, x < k := fun x hx => bitLt hlt ((mem_memb hS16).1 hx)
          have hin' : InL k o := fun p hp => by
            rcases (o3 p).1 hp with h | ⟨u, v, h1, h2, h3, rfl⟩
            · cases h
            · rw [List.drop_zero] at h1
              have := hmk u h1; have := hmk v h2
              exact ⟨by omega, by omega, by omega, by omega⟩
          obtain ⟨M, m1, m2, m3⟩ := far_mat (k := k) (l := o) (by omega) (by omega) hin'
          obtain ⟨y, hy⟩ := cr_L4 m2 hmk (by omega) hm16 300 0 true (by omega) (by omega)
          obtain ⟨s, hsd⟩ : ∃ s, s = (memb S).getD 0 0 := ⟨_, rfl⟩
          have hsS : S.testBit s = true := by
            rw [hsd]
            have : (memb S).getD 0 0 = (memb S)[0]'(by omega) := by simp [List.getD, show 0 < (memb S).length by omega]
            rw [this]; exact (mem_memb hS16).1 (List.getElem_mem _)
          have hAd : ∀ u v, Ad k o u v ↔ S.testBit u = true ∧ S.testBit v = true ∧ aL l u v = true := fun u v => by
            rw [ad_iff hin']
            constructor
            · rintro ⟨p, hp, hh⟩
              rcases (o3 p).1 hp with h | ⟨u', v', h1, h2, h3, rfl⟩
              · cases h
              · rw [List.drop_zero] at h1
                have b1 := (mem_memb hS16).1 h1
                have b2 := (mem_memb hS16).1 h2
                rcases hh with ⟨e1, e2⟩ | ⟨e1, e2⟩
                · have : u' = u := Int.ofNat.inj e1
                  have : v' = v := Int.ofNat.inj e2
                  subst_vars; exact ⟨b1, b2, h3⟩
                · have : u' = v := Int.ofNat.inj e1
                  have : v' = u := Int.ofNat.inj e2
                  subst_vars; exact ⟨b2, b1, by rw [aL_sym]; exact h3⟩
            · rintro ⟨h1, h2, h3⟩
              exact ⟨((u : Int), (v : Int)), (o3 _).2 (.inr ⟨u, v, by rw [List.drop_zero]; exact (mem_memb hS16).2 h1, (mem_memb hS16).2 h2, h3, rfl⟩), .inl ⟨rfl, rfl⟩⟩
          have hF := m3 s (bitLt hlt hsS)
          have hreach := far_reach (a := aL l) hAd hlt hsS hF
          have hall : ((memb S).all fun v => decide (0 ≤ ent M ((memb S).getD 0 0) v)) = true ↔ Hole (aL l) S := by
            rw [List.all_eq_true]
            constructor
            · intro h
              have r : ∀ v, S.testBit v = true → ∃ n, WU (aL l) (inS S) n s v := fun v hv => (hreach v hv).1 (by
                have := of_decide_eq_true (h v ((mem_memb hS16).2 hv))
                rw [← hsd] at this; exact this)
              refine ⟨by omega, hdg, fun u v hu hv => ?_⟩
              obtain ⟨n1, q1⟩ := r u hu
              obtain ⟨n2, q2⟩ := r v hv
              exact ⟨_, (q1.rev (aL_sym l)).append q2⟩
            · rintro ⟨_, _, H3⟩ v hv
              refine decide_eq_true ?_
              rw [← hsd]
              exact (hreach v ((mem_memb hS16).1 hv)).2 (H3 s v hsS ((mem_memb hS16).1 hv))
          rw [c2, if_pos rfl, m1, Option.bind_some, show L3_ChordalRings_L4 300 (rowN (memb S)) M 300 true 0 = _ from hy, Option.bind_some, List.drop_zero, Bool.true_and]
          dsimp only
          cases f
          · rw [if_neg (by decide)]
            by_cases ch : ((memb S).all fun v => decide (0 ≤ ent M ((memb S).getD 0 0) v)) = true
            · rw [if_pos ch, Option.bind_some]
              exact fin true ⟨fun _ => .inr (hall.1 ch), fun _ => rfl⟩
            · rw [if_neg ch, Option.bind_some]
              exact fin false ⟨fun z => .inl z, fun z => z.elim id fun H => absurd (hall.2 H) ch⟩
          · rw [if_pos rfl, Option.bind_some]
            exact fin true ⟨.inl, fun _ => rfl⟩
        · rw [if_neg c2]
          exact fin f ⟨.inl, fun h => h.elim id fun H => absurd (List.all_eq_true.2 fun v hv => decide_eq_true (H.2.1 v ((mem_memb hS16).1 hv))) c2⟩
    · rw [if_neg (by omega)]
      exact ⟨f, _, rfl, .inl, fun h => h.elim id fun ⟨T, h1, h2, _⟩ => by omega⟩
theorem mErr_self5 : mErr 5 5 = some true := by unfold mErr; rw [decide_eq_true rfl]
theorem rings_says {n : Int} {l : List (Int × Int)} (hg : good n l) : L3_ChordalRings 300 n l = some true := by
  unfold L3_ChordalRings
  rw [cr_fact, Option.bind_some, if_pos rfl, R1_Lines_big (by omega)]
  by_cases he : errG n l = 0
  · obtain ⟨k, rfl, h1, h8, h24, hin, hne⟩ := errG_zero he
    obtain ⟨f, x, f1, f2⟩ := cr_L1 (l := l) h24 h8 300 0 false (by have := Nat.pow_le_pow_right (n := 2) (by omega) h8; omega) (Nat.zero_le _)
    have hf : f = true ↔ ¬ Peels (aL l) k := by
      rw [f2]
      constructor
      · rintro (h | ⟨T, _, h2, h3⟩)
        · cases h
        · exact hole_no (aL_sym l) (aL_irr hne) h8 h2 h3
      · intro h
        obtain ⟨T, h2, h3⟩ := hole_of (aL_sym l) (aL_irr hne) h8 h
        exact .inr ⟨T, Nat.zero_le _, h2, h3⟩
    rcases peel_ev h1 h8 h24 hin hne with ⟨os, q1, q2⟩ | ⟨q1, q2⟩
    · have : f = false := Bool.eq_false_iff.2 fun z => hf.1 z ((peels_iff h8).1 ⟨os, q1⟩)
      subst this
      rw [q2, Option.bind_some, he, Option.bind_some, if_neg (by decide), show L3_ChordalRings_L1 300 (k : Int) l 300 false 0 = _ from f1]; rfl
    · have : f = true := hf.2 fun P => by
        obtain ⟨r, hr⟩ := (peels_iff h8).2 P
        rw [q1] at hr; cases hr
      subst this
      rw [q2, Option.bind_some, he, Option.bind_some, if_neg (by decide), show L3_ChordalRings_L1 300 (k : Int) l 300 false 0 = _ from f1]; rfl
  · rw [peel_bad hg he, Option.bind_some, Option.bind_some, if_pos (bne_iff_ne.2 he)]
    dsimp only
    rw [if_pos (bne_iff_ne.2 he)]; rfl
theorem chordalRings_any (w : World) (htc : TyCell w) (n : Int) (hn : (Lit.int .i64 n).wf = true) (A : Option Addr) (cap : Nat) (l : List (Int × Int)) (hr : ReadsL w w.heap.size A l) (hl : l.length ≤ maxLen) :
    Calls Tryd.prog 3 #[.int .i64 n, .slice A l.length cap] w fun e w' => e = .returned (.bool true) ∧ Below w.heap.size w w' :=
  L3_ChordalRings_ok w htc cap hr (rings_says ⟨hn, hl⟩)
end Go.Proofs.YtcbalejnkhnppaaDoor
