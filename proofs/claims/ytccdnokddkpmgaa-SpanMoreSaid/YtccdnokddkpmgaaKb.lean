import Derived.Test.YtccdnokddkpmgaaKr
import Derived.Test.YtccdnokddkpmgaaP3
/- SpanBoruvka -/
set_option linter.all false
set_option maxRecDepth 100000
namespace Go.Proofs.Ytccdnokddkpmgaa
open Go.RowKit Pl
/-! ### hanging together -/
inductive Cn (l : List (Int × Int × Int)) (T : List Nat) : Nat → Nat → Prop
  | refl (a : Nat) : Cn l T a a
  | step {a b c i : Nat} : Cn l T a b → i ∈ T → (pA l i = b ∧ pB l i = c ∨ pA l i = c ∧ pB l i = b) → Cn l T a c
section
variable {l : List (Int × Int × Int)} {T : List Nat}
theorem Cn.trans {a b c : Nat} (h : Cn l T a b) (k : Cn l T b c) : Cn l T a c := by
  induction k with
  | refl => exact h
  | step _ hi hj ih => exact .step ih hi hj
theorem Cn.symm {a b : Nat} (h : Cn l T a b) : Cn l T b a := by
  induction h with
  | refl => exact .refl _
  | step _ hi hj ih => exact Cn.trans (.step (.refl _) hi (hj.elim (fun q => .inr ⟨q.1, q.2⟩) fun q => .inl ⟨q.1, q.2⟩)) ih
theorem Cn.mono {T' : List Nat} (hs : ∀ x ∈ T, x ∈ T') {a b : Nat} (h : Cn l T a b) : Cn l T' a b := by
  induction h with
  | refl => exact .refl _
  | step _ hi hj ih => exact .step ih (hs _ hi) hj
theorem Cn.line {i : Nat} (hi : i ∈ T) : Cn l T (pA l i) (pB l i) := .step (.refl _) hi (.inl ⟨rfl, rfl⟩)
/-- a point that no line touches stands alone -/
theorem Cn.alone {q : Nat} (hq : ∀ i ∈ T, pA l i ≠ q ∧ pB l i ≠ q) {u : Nat} (h : Cn l T q u) : u = q := by
  induction h with
  | refl => rfl
  | step _ hi hj ih =>
    subst ih
    rcases hj with ⟨e, _⟩ | ⟨_, e⟩
    · exact absurd e (hq _ hi).1
    · exact absurd e (hq _ hi).2
variable {k : Nat}
def Sd (l : List (Int × Int × Int)) (T : List Nat) (S : St) : Prop := ∀ v u, (S.1.getD v 0).testBit u = true → Cn l T v u
theorem sd_step (hk : k ≤ 8) {S : St} {i m j : Nat} (hok : okSt k m j S) (h : Sd l T S) : Sd l (T ++ [i]) (krS l S i) := by
  have hp := Nat.pow_le_pow_right (n := 2) (by omega) hk
  have hm : ∀ x ∈ T, x ∈ T ++ [i] := fun x hx => List.mem_append_left _ hx
  intro v u hb
  unfold krS at hb
  split at hb
  · exact (h v u hb).mono hm
  · by_cases hv : v < S.1.length
    · have hb' : ((setAll S.1 (memb (S.1.getD (pA l i) 0 ||| S.1.getD (pB l i) 0)) (S.1.getD (pA l i) 0 ||| S.1.getD (pB l i) 0)).getD v 0).testBit u = true := hb
      rw [setAll_at _ _ _ _ hv] at hb'
      have hor : S.1.getD (pA l i) 0 ||| S.1.getD (pB l i) 0 < 2 ^ k := Nat.or_lt_two_pow (hok.2.1 _) (hok.2.1 _)
      have side : ∀ x, (S.1.getD (pA l i) 0 ||| S.1.getD (pB l i) 0).testBit x = true → Cn l (T ++ [i]) (pA l i) x := fun x hx => by
        rw [Nat.testBit_or, Bool.or_eq_true] at hx
        rcases hx with hx | hx
        · exact (h _ _ hx).mono hm
        · exact (Cn.line (List.mem_append_right _ (List.mem_singleton.2 rfl))).trans ((h _ _ hx).mono hm)
      by_cases c : v ∈ memb (S.1.getD (pA l i) 0 ||| S.1.getD (pB l i) 0)
      · rw [if_pos c] at hb'
        exact (side v ((mem_memb (by omega)).1 c)).symm.trans (side u hb')
      · rw [if_neg c] at hb'
        exact (h v u hb').mono hm
    · have hb' : ((setAll S.1 (memb (S.1.getD (pA l i) 0 ||| S.1.getD (pB l i) 0)) (S.1.getD (pA l i) 0 ||| S.1.getD (pB l i) 0)).getD v 0).testBit u = true := hb
      rw [List.getD_eq_getElem?_getD, List.getElem?_eq_none (by rw [setAll_len]; omega)] at hb'
      simp at hb'
theorem sd_fold (hk : k ≤ 8) (hin : InC k l) : ∀ (P T : List Nat) (j : Nat) (S : St), (∀ x ∈ P, x < l.length) → okSt k l.length j S → Sd l T S → Sd l (T ++ P) (P.foldl (krS l) S) ∧ okSt k l.length (j + P.length) (P.foldl (krS l) S)
  | [], T, j, S, _, h1, h2 => ⟨by rw [List.append_nil]; exact h2, h1⟩
  | x :: P, T, j, S, hx, h1, h2 => by
    have := sd_fold hk hin P (T ++ [x]) (j+1) (krS l S x) (fun y hy => hx y (List.mem_cons_of_mem _ hy)) (okSt_step hk hin (hx x List.mem_cons_self) h1) (sd_step hk h1 h2)
    rw [List.append_assoc] at this
    rw [List.length_cons, show j + (P.length + 1) = j + 1 + P.length by omega]
    exact this
theorem sd0 : Sd l [] (st0 k l.length) := fun v u hb => by
  by_cases hv : v < k
  · have : (st0 k l.length).1.getD v 0 = 2 ^ v := by simp [st0, List.getD, hv]
    rw [this, Nat.testBit_two_pow, decide_eq_true_eq] at hb
    subst hb; exact .refl _
  · rw [List.getD_eq_getElem?_getD, List.getElem?_eq_none (by simp [st0]; omega)] at hb
    simp at hb
theorem keeps (b : Nat) : ∀ (Q : List Nat) (S : St), b < S.2.1.length → S.2.1.getD b false = true → (Q.foldl (krS l) S).2.1.getD b false = true
  | [], S, _, h => h
  | x :: Q, S, hl, h => by
    refine keeps b Q (krS l S x) ?_ ?_
    · unfold krS; split
      · exact hl
      · rw [List.length_set]; exact hl
    · unfold krS; split
      · exact h
      · show (S.2.1.set x true).getD b false = true
        by_cases e : x = b
        · subst e; simp [List.getD, hl]
        · rw [List.getD_eq_getElem?_getD, List.getElem?_set_ne e, ← List.getD_eq_getElem?_getD]; exact h
/-- a line is taken if its ends don't hang together by those before it -/
theorem taken (hk : k ≤ 8) (hin : InC k l) {P Q : List Nat} {b : Nat} (hP : ∀ x ∈ P, x < l.length) (hb : b < l.length) (hn : ¬ Cn l P (pA l b) (pB l b)) :
    ((P ++ b :: Q).foldl (krS l) (st0 k l.length)).2.1.getD b false = true := by
  obtain ⟨h1, h2⟩ := sd_fold hk hin P [] 0 (st0 k l.length) hP (ok0 hk) sd0
  rw [List.nil_append] at h1
  rw [List.foldl_append, List.foldl_cons]
  obtain ⟨S, hS⟩ : ∃ S, P.foldl (krS l) (st0 k l.length) = S := ⟨_, rfl⟩
  rw [hS] at h1 h2 ⊢
  have hbit : (S.1.getD (pA l b) 0).testBit (pB l b) = false := by
    cases e : (S.1.getD (pA l b) 0).testBit (pB l b)
    · rfl
    · exact absurd (h1 _ _ e) hn
  have e : krS l S b = (setAll S.1 (memb (S.1.getD (pA l b) 0 ||| S.1.getD (pB l b) 0)) (S.1.getD (pA l b) 0 ||| S.1.getD (pB l b) 0), S.2.1.set b true, S.2.2 + cs l b) := by unfold krS; rw [if_neg (by rw [hbit]; decide)]
  have hl : b < S.2.1.length := by rw [h2.2.2.1]; exact hb
  refine keeps b Q _ ?_ ?_
  · rw [e]; show b < (S.2.1.set b true).length; rw [List.length_set]; exact hl
  · rw [e]; show (S.2.1.set b true).getD b false = true; simp [List.getD, hl]
theorem fold_len : ∀ (P : List Nat) (S : St), (P.foldl (krS l) S).2.1.length = S.2.1.length
  | [], S => rfl
  | x :: P, S => by
    rw [List.foldl_cons, fold_len P]
    unfold krS; split
    · rfl
    · exact List.length_set
/-! ### Boruvka -/
def tch (l : List (Int × Int × Int)) (i : Int) (x : Nat) : Prop := (l.getD x (0, 0, 0)).1 = i ∨ (l.getD x (0, 0, 0)).2.1 = i
theorem bo_L1 (h24 : l.length ≤ 24) (i : Int) : ∀ (g j : Nat) (v : Int), l.length < j + g → j ≤ l.length →
    ((v = -1 ∧ ∀ x, x < j → ¬ tch l i x) ∨ ∃ b : Nat, v = b ∧ b < j ∧ tch l i b ∧ ∀ x, x < j → tch l i x → x = b ∨ cs l b < cs l x ∨ (cs l b = cs l x ∧ b < x)) →
    ∃ r x, L3_SpanBoruvka_L1 300 l i g v (j : Int) = some (r, x) ∧ ((r = -1 ∧ ∀ x, x < l.length → ¬ tch l i x) ∨ ∃ b : Nat, r = b ∧ b < l.length ∧ tch l i b ∧ ∀ x, x < l.length → tch l i x → x = b ∨ cs l b < cs l x ∨ (cs l b = cs l x ∧ b < x))
  | 0, j, v, h, hj, _ => by omega
  | g+1, j, v, h, hj, hv => by
    rw [L3_SpanBoruvka_L1_s]
    by_cases c : j < l.length
    · have hix : ix l (j : Int) = some (l.getD j (0, 0, 0)) := ix_at (0, 0, 0) c
      obtain ⟨e, he⟩ : ∃ e, l.getD j (0, 0, 0) = e := ⟨_, rfl⟩
      have hce : cs l j = e.2.2 := by unfold cs; rw [he]
      have ht : ((ix l (j : Int)).bind fun y9 => if (y9.1 == i) = true then some true else (ix l (j : Int)).bind fun y10 => if (y10.2.1 == i) = true then some true else some false) = some (decide (e.1 = i ∨ e.2.1 = i)) := by
        rw [hix, Option.bind_some, he]
        by_cases q1 : e.1 = i
        · rw [if_pos (by rw [beq_iff_eq]; exact q1), decide_eq_true (.inl q1)]
        · rw [if_neg (by rw [beq_iff_eq]; exact q1), Option.bind_some]
          by_cases q2 : e.2.1 = i
          · rw [if_pos (by rw [beq_iff_eq]; exact q2), decide_eq_true (.inr q2)]
          · rw [if_neg (by rw [beq_iff_eq]; exact q2), decide_eq_false (fun q => q.elim q1 q2)]
      have htj : tch l i j ↔ (e.1 = i ∨ e.2.1 = i) := by unfold tch; rw [he]
      rw [if_pos (by omega), ht, Option.bind_some, w64n (by omega)]
      by_cases ht1 : tch l i j
      · rw [decide_eq_true (htj.1 ht1), if_pos rfl]
        rcases hv with ⟨ev, q⟩ | ⟨b, ev, b1, b2, b3⟩
        · rw [if_pos (by omega), Option.bind_some, if_pos rfl]
          refine bo_L1 h24 i g (j+1) (j : Int) (by omega) (by omega) (.inr ⟨j, rfl, by omega, ht1, fun x hx hxs => ?_⟩)
          by_cases hxi : x = j
          · exact .inl hxi
          · exact absurd hxs (q x (by omega))
        · subst ev
          have hib : ix l (b : Int) = some (l.getD b (0, 0, 0)) := ix_at (0, 0, 0) (by omega)
          have hcb : cs l b = (l.getD b (0, 0, 0)).2.2 := rfl
          rw [if_neg (by omega), hix, Option.bind_some, hib, Option.bind_some, he, ← hce, ← hcb]
          by_cases hlt : cs l j < cs l b
          · rw [if_pos hlt, Option.bind_some, if_pos rfl]
            refine bo_L1 h24 i g (j+1) (j : Int) (by omega) (by omega) (.inr ⟨j, rfl, by omega, ht1, fun x hx hxs => ?_⟩)
            by_cases hxi : x = j
            · exact .inl hxi
            · refine .inr (.inl ?_)
              rcases b3 x (by omega) hxs with q | q | q
              · rw [q]; exact hlt
              · omega
              · omega
          · rw [if_neg hlt, Option.bind_some, if_neg (by decide)]
            refine bo_L1 h24 i g (j+1) (b : Int) (by omega) (by omega) (.inr ⟨b, rfl, by omega, b2, fun x hx hxs => ?_⟩)
            by_cases hxi : x = j
            · subst hxi; refine .inr ?_; omega
            · exact b3 x (by omega) hxs
      · rw [decide_eq_false (fun q => ht1 (htj.2 q)), if_neg (by decide), Option.bind_some, if_neg (by decide)]
        refine bo_L1 h24 i g (j+1) v (by omega) (by omega) ?_
        rcases hv with ⟨ev, q⟩ | ⟨b, ev, b1, b2, b3⟩
        · refine .inl ⟨ev, fun x hx => ?_⟩
          by_cases hxi : x = j
          · subst hxi; exact ht1
          · exact q x (by omega)
        · refine .inr ⟨b, ev, by omega, b2, fun x hx hxs => ?_⟩
          by_cases hxi : x = j
          · subst hxi; exact absurd hxs ht1
          · exact b3 x (by omega) hxs
    · have : j = l.length := by omega
      subst this
      rw [if_neg (by omega)]
      exact ⟨_, _, rfl, hv⟩
theorem boruvka (hk : k ≤ 8) (hin : InC k l) {ord : List Nat} (hn : ord.Nodup) (hord : ∀ x, x ∈ ord ↔ x < l.length) (hp : ord.Pairwise fun a b => cs l a < cs l b ∨ (cs l a = cs l b ∧ a < b)) {i : Int} {b : Nat} (hb : b < l.length) (ht : tch l i b)
    (hm : ∀ x, x < l.length → tch l i x → x = b ∨ cs l b < cs l x ∨ (cs l b = cs l x ∧ b < x)) : (ord.foldl (krS l) (st0 k l.length)).2.1.getD b false = true := by
  obtain ⟨P, Q, e⟩ := List.append_of_mem ((hord b).2 hb)
  rw [e] at hp hn ⊢
  have hP : ∀ x ∈ P, x < l.length := fun x hx => (hord x).1 (by rw [e]; exact List.mem_append_left _ hx)
  refine taken hk hin hP hb fun hc => ?_
  have heb := hin _ (List.getElem_mem hb)
  have hgb : l.getD b (0, 0, 0) = l[b] := by simp [List.getD, hb]
  have hi0 : 0 ≤ i := by unfold tch at ht; rw [hgb] at ht; rcases ht with q | q <;> omega
  have hno : ∀ x ∈ P, pA l x ≠ i.toNat ∧ pB l x ≠ i.toNat := fun x hx => by
    have hxl := hP x hx
    have hex := hin _ (List.getElem_mem hxl)
    have hgx : l.getD x (0, 0, 0) = l[x] := by simp [List.getD, hxl]
    have hbef := (List.pairwise_append.1 hp).2.2 x hx b List.mem_cons_self
    have hnt : ¬ tch l i x := fun q => by
      rcases hm x hxl q with q | q | q
      · subst q; omega
      · omega
      · omega
    unfold tch at hnt
    rw [hgx] at hnt
    unfold pA pB
    rw [hgx]
    exact ⟨fun q => hnt (.inl (by omega)), fun q => hnt (.inr (by omega))⟩
  have hne : pA l b ≠ pB l b := by unfold pA pB; rw [hgb]; omega
  unfold tch at ht
  rw [hgb] at ht
  rcases ht with q | q
  · have hq : pA l b = i.toNat := by unfold pA; rw [hgb, q]
    rw [hq] at hc hne
    exact hne (Cn.alone hno hc).symm
  · have hq : pB l b = i.toNat := by unfold pB; rw [hgb, q]
    rw [hq] at hc hne
    exact hne (Cn.alone hno hc.symm)
end
/-! ### the closed fact -/
def lF : List (Int × Int × Int) := [(0, 1, 5), (1, 2, 1), (0, 2, 2)]
theorem ord3 : ∀ a, a < 3 → ∀ b, b < 3 → ∀ c, c < 3 → (cs lF a < cs lF b ∨ (cs lF a = cs lF b ∧ a < b)) → (cs lF a < cs lF c ∨ (cs lF a = cs lF c ∧ a < c)) → (cs lF b < cs lF c ∨ (cs lF b = cs lF c ∧ b < c)) → [a, b, c] = [1, 2, 0] := by
  intro a ha b hb c hc h1 h2 h3
  have e0 : cs lF 0 = 5 := rfl
  have e1 : cs lF 1 = 1 := rfl
  have e2 : cs lF 2 = 2 := rfl
  have qa : a = 0 ∨ a = 1 ∨ a = 2 := by omega
  have qb : b = 0 ∨ b = 1 ∨ b = 2 := by omega
  have qc : c = 0 ∨ c = 1 ∨ c = 2 := by omega
  rcases qa with rfl | rfl | rfl <;> rcases qb with rfl | rfl | rfl <;> rcases qc with rfl | rfl | rfl <;> first | rfl | (exfalso; omega)
theorem neckF : span_Neck 300 3 lF 0 1 = some (2, 0) := by decide +kernel
theorem boolsF : SE_Bools 300 [false, true, true] [false, true, true] = some true := by decide +kernel
theorem leastF : span_Least 300 3 lF = some ([false, true, true], 3, 0) := by
  have hch : span_Check 300 ((3 : Nat) : Int) lF = some 0 := by rw [spanck_ev]; rfl
  have hin : InC 3 lF := errCs_in (k := 3) (l := lF) rfl
  obtain ⟨ord, o1, o2, o3, o4⟩ := least_ev' (k := 3) (l := lF) (by omega) (by omega) hin (by decide) hch
  have hp : ord.Perm (List.range 3) := (List.perm_ext_iff_of_nodup o1 List.nodup_range).2 fun x => by rw [o2, List.mem_range]; rfl
  have hl : ord.length = 3 := by rw [hp.length_eq]; rfl
  have hord : ord = [1, 2, 0] := by
    match ord, hl, o2, o3 with
    | [a, b, c], _, o2, o3 =>
      obtain ⟨p1, p2⟩ := List.pairwise_cons.1 o3
      exact ord3 a ((o2 a).1 (by simp)) b ((o2 b).1 (by simp)) c ((o2 c).1 (by simp)) (p1 b (by simp)) (p1 c (by simp)) ((List.pairwise_cons.1 p2).1 c (by simp))
  subst hord
  have e : ([1, 2, 0].foldl (krS lF) (st0 3 lF.length)) = ([7, 7, 7], [false, true, true], 3) := by decide +kernel
  rw [e] at o4
  exact o4
theorem fact_ev : L3_spanFact 300 = some true := by
  unfold L3_spanFact
  rw [show span_Least 300 3 [(0, 1, 5), (1, 2, 1), (0, 2, 2)] = _ from leastF, Option.bind_some, show span_Neck 300 3 [(0, 1, 5), (1, 2, 1), (0, 2, 2)] 0 1 = _ from neckF, Option.bind_some]
  dsimp only
  rw [boolsF]; rfl
theorem least_bad {n : Int} {l : List (Int × Int × Int)} (h : errC n l ≠ 0) : span_Least 300 n l = some ([], 0, errC n l) := by
  unfold span_Least
  rw [spanck_ev, Option.bind_some, if_pos (by rw [bne_iff_ne]; exact h)]
theorem boruvka_ev (n : Int) (l : List (Int × Int × Int)) (i : Int) : L3_SpanBoruvka 300 n l i = some true := by
  unfold L3_SpanBoruvka
  rw [fact_ev, Option.bind_some, if_pos rfl]
  by_cases h : errC n l = 0
  · obtain ⟨k, rfl, h1, hk, h24, hin⟩ := errC_zero h
    have hch : span_Check 300 (k : Int) l = some 0 := by rw [spanck_ev, h]
    obtain ⟨ord, o1, o2, o3, o4⟩ := least_ev' h1 hk hin h24 hch
    rw [o4, Option.bind_some]
    by_cases c : (ord.foldl (krS l) (st0 k l.length)).1.getD 0 0 = 2 ^ k - 1
    · have hlen : (ord.foldl (krS l) (st0 k l.length)).2.1.length = l.length := by rw [fold_len]; simp [st0]
      rw [if_pos c]
      dsimp only
      rw [if_neg (by decide), hlen, if_neg (by simp), L3_in_ev, Option.bind_some]
      by_cases hr : 0 ≤ i ∧ i ≤ wrap64 ((k : Int) - 1)
      · obtain ⟨r, x, r1, r2⟩ := bo_L1 h24 i 300 0 (-1) (by omega) (Nat.zero_le _) (.inl ⟨rfl, fun x hx => by omega⟩)
        rw [decide_eq_true hr, if_pos rfl, Option.bind_some, if_neg (by decide), show L3_SpanBoruvka_L1 300 l i 300 (-1) 0 = _ from r1, Option.bind_some]
        dsimp only
        rcases r2 with ⟨e, _⟩ | ⟨b, e, b1, b2, b3⟩
        · rw [if_pos (by omega)]; rfl
        · have hb := boruvka hk hin o1 o2 o3 b1 b2 b3
          subst e
          rw [if_neg (by omega), ix_at false (by rw [hlen]; exact b1), hb]; rfl
      · rw [decide_eq_false hr, if_neg (by decide), Option.bind_some, if_pos rfl, if_pos (by rw [beq_self_eq_true])]; rfl
    · rw [if_neg c]; rfl
  · rw [least_bad h, Option.bind_some]
    dsimp only
    rw [if_pos (by rw [bne_iff_ne]; exact h)]; rfl
theorem spanBoruvka_any (w : World) (n : Int) (hn : (Lit.int .i64 n).wf = true) (A : Option Addr) (cap : Nat) (l : List (Int × Int × Int)) (hr : ReadsC w w.heap.size A l) (hl : l.length ≤ maxLen) (i : Int) (hi : (Lit.int .i64 i).wf = true) :
    Calls Try.prog 5 #[.int .i64 n, .slice A l.length cap, .int .i64 i] w fun e w' => e = .returned (.bool true) ∧ Below w.heap.size w w' :=
  L3_SpanBoruvka_ok w cap hr (boruvka_ev n l i)
end Go.Proofs.Ytccdnokddkpmgaa
