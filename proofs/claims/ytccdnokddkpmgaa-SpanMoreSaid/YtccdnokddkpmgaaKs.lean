import Derived.Test.YtccdnokddkpmgaaKq
import Derived.Test.YtccdnokddkpmgaaBSt
/- SpanKruskal -/
set_option linter.all false
set_option maxRecDepth 100000
namespace Go.Proofs.Ytccdnokddkpmgaa
open Go.RowKit Pl
section
variable {k : Nat} {l : List (Int × Int × Int)}
theorem comps_one {T : List Nat} {S : St} (h : Iv l k T S) (hk1 : 1 ≤ k) (hc : ∀ v, v < k → Cn l T 0 v) : comps k S = 1 := by
  obtain ⟨n, rfl⟩ : ∃ n, k = n + 1 := ⟨k - 1, by omega⟩
  unfold comps
  rw [List.range_succ_eq_map, List.filter_cons_of_pos rfl, List.length_cons]
  have : (((List.range n).map Nat.succ).filter (rep S)) = [] := by
    rw [List.filter_eq_nil_iff]
    intro v hv hr
    obtain ⟨x, hx, rfl⟩ := List.mem_map.1 hv
    have hx := List.mem_range.1 hx
    exact (rep_iff h (by omega)).1 hr 0 (by omega) (hc _ (by omega))
  rw [this]; rfl
theorem comps_zero : comps k (st0 k l.length) = k := by
  unfold comps
  rw [List.filter_eq_self.2, List.length_range]
  intro v hv
  have hv := List.mem_range.1 hv
  unfold rep
  rw [List.all_eq_true]
  intro u hu
  have hu := List.mem_range.1 hu
  have e : (st0 k l.length).1.getD u 0 = 2 ^ u := by simp [st0, List.getD, show u < k by omega]
  rw [e, Nat.testBit_two_pow, decide_eq_false (by omega)]; rfl
theorem ord_perm {ord : List Nat} (hn : ord.Nodup) (hord : ∀ x, x ∈ ord ↔ x < l.length) : ord.Perm (List.range l.length) :=
  (List.perm_ext_iff_of_nodup hn List.nodup_range).2 fun x => by rw [hord, List.mem_range]
theorem sumL_perm (f : Nat → Int) {a b : List Nat} (h : a.Perm b) : sumL f a = sumL f b := by
  induction h with
  | nil => rfl
  | cons x _ ih => simp only [sumL]; rw [ih]
  | swap x y l => simp only [sumL]; omega
  | trans _ _ h1 h2 => rw [h1, h2]
/-- all hang together: then the taken lines are a tree -/
theorem all_cn (hk : k ≤ 8) (hin : InC k l) {ord : List Nat} (hn : ord.Nodup) (hord : ∀ x, x ∈ ord ↔ x < l.length) (hfull : (ord.foldl (krS l) (st0 k l.length)).1.getD 0 0 = 2 ^ k - 1) (h1 : 1 ≤ k) :
    Iv l k ord (ord.foldl (krS l) (st0 k l.length)) ∧ (∀ v, v < k → Cn l ord 0 v) := by
  obtain ⟨i1, i2, _⟩ := iv_fold hk hin ord [] 0 (st0 k l.length) (fun x hx => (hord x).1 hx) (fun x h => by cases h) (ok0 hk) (iv0 hk)
  rw [List.nil_append] at i1
  refine ⟨i1, fun v hv => (i1.2 0 (by omega) v hv).1 ?_⟩
  rw [hfull, full_bit]; exact decide_eq_true hv
theorem span_tree (h1 : 1 ≤ k) (hk : k ≤ 8) (h24 : l.length ≤ 24) (hin : InC k l) {ord : List Nat} (hn : ord.Nodup) (hord : ∀ x, x ∈ ord ↔ x < l.length) (hfull : (ord.foldl (krS l) (st0 k l.length)).1.getD 0 0 = 2 ^ k - 1) :
    Good k (chM l (ord.foldl (krS l) (st0 k l.length)).2.1) := by
  have hlt : ∀ x ∈ ord, x < l.length := fun x hx => (hord x).1 hx
  obtain ⟨iv, hc⟩ := all_cn hk hin hn hord hfull h1
  have hT : ∀ i ∈ ord, (ord.foldl (krS l) (st0 k l.length)).2.1.getD i false = true → i ∈ tkl l (ord.foldl (krS l) (st0 k l.length)).2.1 := fun i hi h => List.mem_filter.2 ⟨List.mem_range.2 (hlt i hi), h⟩
  have hgen := gen hk hin hn hlt _ hT ord [] (by simp)
  obtain ⟨_, _, q3⟩ := taken_row hk hin ord [] 0 (st0 k l.length) hlt (fun x h => by cases h) hn (fun x hx => by
    have := hlt x hx
    simp [st0, List.getD, this]) (ok0 hk) (iv0 hk)
  have q := q3 0
  rw [List.take_zero, List.drop_zero, List.foldl_nil, comps_zero, comps_one iv h1 hc] at q
  have hlen : (chM l (ord.foldl (krS l) (st0 k l.length)).2.1).length = cnt (fun i => (ord.foldl (krS l) (st0 k l.length)).2.1.getD i false) ord := by
    unfold chM tkl cnt
    rw [List.length_map]
    exact ((ord_perm hn hord).symm.filter _).length_eq
  have herr := ch_err h1 hk h24 hin (ord.foldl (krS l) (st0 k l.length)).2.1
  refine ⟨ch_good hk h24 _, herr, h1, hk, ch_in hin _, fun p hp => ?_, by omega, (ch_conn hin _).2 fun v hv => (hgen _ _ (hc v hv)).mono fun x hx => (List.mem_filter.1 hx).1⟩
  obtain ⟨i, hi, rfl⟩ := List.mem_map.1 hp
  obtain ⟨p1, p2, _, _, p5⟩ := ln_in hin (tkl_lt hi)
  rw [p1, p2]; omega
theorem good_errT {l' : List (Int × Int)} (G : Good k l') : errT (k : Int) l' = 0 := by
  unfold errT
  rw [if_neg (by rw [G.err]; simp), Int.toNat_natCast, if_pos ⟨G.len, G.conn⟩]
/-- who stands before i in the order -/
theorem before_iff {ord P Q : List Nat} {i : Nat} (hn : ord.Nodup) (hp : ord.Pairwise fun a b => cs l a < cs l b ∨ (cs l a = cs l b ∧ a < b)) (e : ord = P ++ i :: Q) (x : Nat) :
    x ∈ P ↔ x ∈ ord ∧ (cs l x < cs l i ∨ (cs l x = cs l i ∧ x < i)) := by
  rw [e] at hp hn
  constructor
  · intro hx
    exact ⟨by rw [e]; exact List.mem_append_left _ hx, (List.pairwise_append.1 hp).2.2 x hx i List.mem_cons_self⟩
  · rintro ⟨hx, hc⟩
    rw [e] at hx
    rcases List.mem_append.1 hx with q | q
    · exact q
    · exfalso
      rcases List.mem_cons.1 q with rfl | q
      · omega
      · have := (List.pairwise_cons.1 (List.pairwise_append.1 hp).2.1).1 x q
        omega
/-! ### the law's loops -/
theorem kr_L1 {M : List (List Int)} (hk : k ≤ 16) (hk0 : 0 < k) (hM : Sh k M) : ∀ (g j : Nat), k < j + g → j ≤ k → (∀ i, i < j → 0 ≤ ent M 0 i) →
    (∃ x, L3_SpanKruskal_L1 300 (k : Int) M g (j : Int) = some (.inl x) ∧ ∀ i, i < k → 0 ≤ ent M 0 i) ∨ (L3_SpanKruskal_L1 300 (k : Int) M g (j : Int) = some (.inr true))
  | 0, j, h, hj, _ => by omega
  | g+1, j, h, hj, hI => by
    rw [L3_SpanKruskal_L1_s]
    by_cases c : j < k
    · have i1 : ix M 0 = some (M.getD 0 []) := hM.ix (a := 0) hk0
      rw [if_pos (by omega), i1, Option.bind_some, hM.ix2 hk0 c, Option.bind_some, w64n (by omega)]
      by_cases e : ent M 0 j < 0
      · rw [if_pos e]; exact .inr rfl
      · rw [if_neg e]
        exact kr_L1 hk hk0 hM g (j+1) (by omega) (by omega) fun i hi => by
          by_cases q : i = j
          · subst q; omega
          · exact hI i (by omega)
    · have : j = k := by omega
      subst this
      rw [if_neg (by omega)]
      exact .inl ⟨_, rfl, hI⟩
theorem kr_L2 (y : List Bool) (h24 : l.length ≤ 24) (hin : InC k l) : ∀ (g j : Nat) (v : Int), l.length < j + g → j ≤ l.length → 0 ≤ v → v ≤ 20 * (j : Int) →
    ∃ x, L3_SpanKruskal_L2 300 l y g v (j : Int) = some (v + sumL (fun i => if y.getD i false = true then cs l i else 0) (List.range' j (l.length - j)), x)
  | 0, j, v, h, hj, _, _ => by omega
  | g+1, j, v, h, hj, h0, hv => by
    rw [L3_SpanKruskal_L2_s]
    by_cases c : j < l.length
    · rw [if_pos (by omega)]
      by_cases c2 : j < y.length
      · have hix : ix y (j : Int) = some (y.getD j false) := ix_at false c2
        have hil : ix l (j : Int) = some (l.getD j (0, 0, 0)) := ix_at (0, 0, 0) c
        have he := hin _ (List.getElem_mem c)
        have hg : l.getD j (0, 0, 0) = l[j] := by simp [List.getD, c]
        have hcs : cs l j = (l.getD j (0, 0, 0)).2.2 := rfl
        have hcb : 0 ≤ cs l j ∧ cs l j ≤ 20 := by rw [hcs, hg]; omega
        rw [if_pos (by omega), Option.bind_some, if_pos rfl, hix, Option.bind_some, hil, w64n (by omega)]
        rw [show l.length - j = (l.length - (j+1)) + 1 by omega, List.range'_succ]
        simp only [sumL]
        cases e : y.getD j false
        · rw [if_neg (by decide), if_neg (by decide)]
          obtain ⟨x, ih⟩ := kr_L2 y h24 hin g (j+1) v (by omega) (by omega) h0 (by omega)
          exact ⟨x, by rw [ih]; simp⟩
        · rw [if_pos rfl, if_pos rfl, Option.bind_some, ← hcs, w64 (by omega) (by omega)]
          obtain ⟨x, ih⟩ := kr_L2 y h24 hin g (j+1) (v + cs l j) (by omega) (by omega) (by omega) (by omega)
          exact ⟨x, by rw [ih]; simp only [Option.some.injEq, Prod.mk.injEq, and_true]; omega⟩
      · rw [if_neg (by omega), Option.bind_some, if_neg (by decide)]
        have : ∀ n j, y.length ≤ j → sumL (fun i => if y.getD i false = true then cs l i else 0) (List.range' j n) = 0 := by
          intro n
          induction n with
          | zero => intro j _; rfl
          | succ n ih =>
            intro j hj
            rw [List.range'_succ]
            simp only [sumL]
            rw [ih (j+1) (by omega), List.getD_eq_getElem?_getD, List.getElem?_eq_none hj]; rfl
        rw [this _ _ (by omega)]
        exact ⟨(j : Int), by simp⟩
    · have : j = l.length := by omega
      subst this
      rw [if_neg (by omega), Option.bind_some, if_neg (by decide), Nat.sub_self]
      exact ⟨(l.length : Int), by simp [sumL]⟩
theorem kruskal_ev (n : Int) (l : List (Int × Int × Int)) (y : List Bool) : L3_SpanKruskal 300 n l y = some true := by
  unfold L3_SpanKruskal
  rw [fact_ev, Option.bind_some, if_pos rfl]
  by_cases h : errC n l = 0
  · obtain ⟨k, rfl, h1, hk, h24, hin⟩ := errC_zero h
    have hch : span_Check 300 (k : Int) l = some 0 := by rw [spanck_ev, h]
    obtain ⟨ord, o1, o2, o3, o4⟩ := least_ev' h1 hk hin h24 hch
    rw [o4, Option.bind_some]
    by_cases c : (ord.foldl (krS l) (st0 k l.length)).1.getD 0 0 = 2 ^ k - 1
    · have hlen : (ord.foldl (krS l) (st0 k l.length)).2.1.length = l.length := by rw [fold_len]; simp [st0]
      have G := span_tree h1 hk h24 hin o1 o2 c
      rw [if_pos c]
      dsimp only
      have hkr := fun hcon => kruskal hk hin o1 o2 (o3.imp fun h => by omega) (fun i => y.getD i false) hcon h1
      obtain ⟨R, hR⟩ : ∃ R, ord.foldl (krS l) (st0 k l.length) = R := ⟨_, rfl⟩
      rw [hR] at hlen G hkr ⊢
      rw [if_neg (by decide), hlen, if_neg (by simp), R3_Costs_ev, Option.bind_some, h, if_neg (by decide), Option.bind_some, if_neg (by decide), chosen_ev _ h24, Option.bind_some, tree3_ev G.good, good_errT G, Option.bind_some, if_neg (by decide),
        chosen_ev _ h24, Option.bind_some]
      by_cases c2 : ((chM l y).length : Int) < wrap64 ((k : Int) - 1)
      · rw [if_pos c2]
      · rw [if_neg c2]
        have hcl := ch_len (l := l) y
        obtain ⟨M, m1, m2, m3⟩ := far_mat (l := chM l y) (show k ≤ 16 by omega) (by omega) (ch_in hin y)
        rw [m1, Option.bind_some]
        rcases kr_L1 (by omega) h1 m2 300 0 (by omega) (Nat.zero_le _) (fun i hi => by omega) with ⟨x, t1, t2⟩ | t1
        · obtain ⟨x2, s1⟩ := kr_L2 y h24 hin 300 0 0 (by omega) (Nat.zero_le _) (Int.le_refl _) (Int.le_refl _)
          rw [show L3_SpanKruskal_L1 300 (k : Int) M 300 0 = some (.inl x) from t1, Option.bind_some]
          dsimp only
          rw [show L3_SpanKruskal_L2 300 l y 300 0 0 = _ from s1, Option.bind_some]
          dsimp only
          have hcon : ∀ v, v < k → Cn l (tkl l y) 0 v := (ch_conn hin y).1 ((conn_far (ch_in hin y) h1 (m3 0 h1)).2 t2)
          have hq := hkr hcon
          rw [sumL_perm _ (ord_perm o1 o2), List.range_eq_range'] at hq
          rw [Nat.sub_zero, if_pos (by omega)]; rfl
        · rw [show L3_SpanKruskal_L1 300 (k : Int) M 300 0 = some (.inr true) from t1, Option.bind_some]
    · rw [if_neg c]; rfl
  · rw [least_bad h, Option.bind_some]
    dsimp only
    rw [if_pos (by rw [bne_iff_ne]; exact h)]; rfl
end
theorem spanKruskal_any (w : World) (n : Int) (hn : (Lit.int .i64 n).wf = true) (A : Option Addr) (cap : Nat) (l : List (Int × Int × Int)) (hr : ReadsC w w.heap.size A l) (hl : l.length ≤ maxLen) (A2 : Option Addr) (cap2 : Nat) (y : List Bool) (hr2 : ReadsB w w.heap.size A2 y) (hl2 : y.length ≤ maxLen) :
    Calls Try.prog 3 #[.int .i64 n, .slice A l.length cap, .slice A2 y.length cap2] w fun e w' => e = .returned (.bool true) ∧ Below w.heap.size w w' :=
  L3_SpanKruskal_ok w cap hr cap2 hr2 (kruskal_ev n l y)
end Go.Proofs.Ytccdnokddkpmgaa
