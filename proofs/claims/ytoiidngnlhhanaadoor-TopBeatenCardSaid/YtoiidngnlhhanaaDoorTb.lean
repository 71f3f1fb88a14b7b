import Derived.Test.YtoiidngnlhhanaaDoorTp
import Derived.Test.YtoiidngnlhhanaaDoorW3
/- TopBeaten -/
set_option linter.all false
set_option maxRecDepth 100000
namespace Go.Proofs.YtoiidngnlhhanaaDoor
open Go.RowKit Go.Shelf Pl To
theorem tw_L1 {os : List Int} (hl : os.length < 300) : ∀ (g j : Nat), os.length < j + g → j ≤ os.length → (os.take j).Nodup →
    (∃ x, R1_Twice_L1 300 os g (j : Int) = some (.inl x) ∧ os.Nodup) ∨ (R1_Twice_L1 300 os g (j : Int) = some (.inr true) ∧ ¬ os.Nodup)
  | 0, j, h, hj, _ => by omega
  | g+1, j, h, hj, hn => by
    rw [R1_Twice_L1_s]
    by_cases hlt : j < os.length
    · have htk : tk os (j : Int) = some (os.take j) := by unfold tk; rw [if_pos (by omega), Int.toNat_natCast]
      rw [if_pos (by omega), htk, Option.bind_some, ix_nat hlt, Option.bind_some, R1_Has_ev _ (by rw [List.length_take]; omega) (by rw [List.length_take]; omega), Option.bind_some, w64n (by omega)]
      have hs : os.take (j+1) = os.take j ++ [os[j]] := by rw [List.take_succ_eq_append_getElem hlt]
      by_cases hm : os[j] ∈ os.take j
      · rw [decide_eq_true hm, if_pos rfl]
        refine .inr ⟨rfl, fun q => ?_⟩
        have : (os.take (j+1)).Nodup := List.Nodup.sublist (List.take_sublist _ _) q
        rw [hs, List.nodup_append] at this
        exact this.2.2 _ hm _ (List.mem_singleton.2 rfl) rfl
      · rw [decide_eq_false hm, if_neg (by decide)]
        refine tw_L1 hl g (j+1) (by omega) (by omega) ?_
        rw [hs, List.nodup_append]
        exact ⟨hn, by simp, fun x hx y hy e => by rw [List.mem_singleton.1 hy] at e; subst e; exact hm hx⟩
    · have : j = os.length := by omega
      subst this
      rw [if_neg (by omega)]
      rw [List.take_length] at hn
      exact .inl ⟨_, rfl, hn⟩
theorem twice_ev {os : List Int} (hl : os.length < 300) : (R1_Twice 300 os = some false ∧ os.Nodup) ∨ (R1_Twice 300 os = some true ∧ ¬ os.Nodup) := by
  unfold R1_Twice
  rcases tw_L1 hl 300 0 (by omega) (by omega) (by simp) with ⟨x, q1, q2⟩ | ⟨q1, q2⟩
  · rw [show R1_Twice_L1 300 os 300 0 = _ from q1]; exact .inl ⟨rfl, q2⟩
  · rw [show R1_Twice_L1 300 os 300 0 = _ from q1]; exact .inr ⟨rfl, q2⟩
section
variable {k : Nat} {b : Nat → Nat → Bool}
theorem topo_pw (h : Tn k b) : ∀ {t : List Nat}, t.Nodup → (∀ v ∈ t, v < k) → TopoP b t → t.Pairwise fun x y => b x y = true
  | [], _, _, _ => .nil
  | v :: t, hn, hk, ⟨h1, h2⟩ => by
    obtain ⟨hv, hn'⟩ := List.nodup_cons.1 hn
    refine List.pairwise_cons.2 ⟨fun u hu => h.no (hk u (List.mem_cons_of_mem _ hu)) (hk v List.mem_cons_self) (fun e => hv (e ▸ hu)) (h1 u (List.mem_cons_of_mem _ hu)), topo_pw h hn' (fun u hu => hk u (List.mem_cons_of_mem _ hu)) h2⟩
/-- no ring of three among points in order -/
theorem no3 (h : Tn k b) : ∀ {t : List Nat}, t.Pairwise (fun x y => b x y = true) → ∀ {x y z : Nat}, x ∈ t → y ∈ t → z ∈ t → b x y = true → b y z = true → b z x = true → False
  | [], _, _, _, _, hx, _, _, _, _, _ => by cases hx
  | v :: t, hp, x, y, z, hx, hy, hz, h1, h2, h3 => by
    obtain ⟨p1, p2⟩ := List.pairwise_cons.1 hp
    have hnb : ∀ u, u ∈ v :: t → b u v = false := fun u hu => by
      rcases List.mem_cons.1 hu with rfl | hu
      · exact h.irr u
      · exact h.asym (p1 u hu)
    have ne : ∀ u w, u ∈ v :: t → w ∈ v :: t → b u w = true → w ∈ t := fun u w hu hw huw => by
      rcases List.mem_cons.1 hw with rfl | hw
      · rw [hnb u hu] at huw; cases huw
      · exact hw
    exact no3 h p2 (ne z x hz hx h3) (ne x y hx hy h1) (ne y z hy hz h2) h1 h2 h3
theorem pw_unique (h : Tn k b) : ∀ {l m : List Nat}, l.Pairwise (fun x y => b x y = true) → m.Pairwise (fun x y => b x y = true) → (∀ x, x ∈ l ↔ x ∈ m) → l = m
  | [], [], _, _, _ => rfl
  | [], y :: m, _, _, e => by have := (e y).2 List.mem_cons_self; cases this
  | x :: l, [], _, _, e => by have := (e x).1 List.mem_cons_self; cases this
  | x :: l, y :: m, hl, hm, e => by
    obtain ⟨l1, l2⟩ := List.pairwise_cons.1 hl
    obtain ⟨m1, m2⟩ := List.pairwise_cons.1 hm
    have exy : x = y := by
      rcases List.mem_cons.1 ((e x).1 List.mem_cons_self) with q | hx
      · exact q
      · rcases List.mem_cons.1 ((e y).2 List.mem_cons_self) with q | hy
        · exact q.symm
        · have h1 := l1 y hy
          have h2 := m1 x hx
          rw [h.asym h1] at h2; cases h2
    subst exy
    congr 1
    refine pw_unique h l2 m2 fun z => ?_
    have := e z
    simp only [List.mem_cons] at this
    constructor
    · intro hz
      rcases this.1 (.inr hz) with q | h'
      · subst q; have := l1 z hz; rw [h.irr] at this; cases this
      · exact h'
    · intro hz
      rcases this.2 (.inr hz) with q | h'
      · subst q; have := m1 z hz; rw [h.irr] at this; cases this
      · exact h'
theorem ch_pw (h : Tn k b) (htr : ∀ x y z, b x y = true → b y z = true → b x z = true) : ∀ {l : List Nat}, Ch b l → l.Pairwise fun x y => b x y = true
  | [], _ => .nil
  | [x], _ => List.pairwise_singleton _ _
  | x :: y :: l, hc => by
    have ih := ch_pw h htr hc.2
    refine List.pairwise_cons.2 ⟨fun z hz => ?_, ih⟩
    rcases List.mem_cons.1 hz with rfl | hz
    · exact hc.1
    · exact htr x y z hc.1 ((List.pairwise_cons.1 ih).1 z hz)
/-- scores that differ: the greater one beats -/
theorem score_beats (h : Tn k b) (hd : ∀ i j, i < k → j < k → i ≠ j → ((List.range k).filter (b i)).length ≠ ((List.range k).filter (b j)).length) : ∀ (m v : Nat), v < k → k ≤ ((List.range k).filter (b v)).length + m → ∀ w, w < k → ((List.range k).filter (b v)).length < ((List.range k).filter (b w)).length → b w v = true
  | 0, v, hv, hm, w, hw, hlt => by have := score_le h hw; omega
  | m+1, v, hv, hm, w, hw, hlt => by
    have ih := score_beats h hd m w hw (by omega)
    have hL : ((List.range k).filter fun x => decide (((List.range k).filter (b x)).length < ((List.range k).filter (b w)).length)).length ≤ ((List.range k).filter (b w)).length := by
      have : (((List.range k).filter fun x => decide (((List.range k).filter (b x)).length < ((List.range k).filter (b w)).length)).map fun x => ((List.range k).filter (b x)).length).length ≤ (List.range ((List.range k).filter (b w)).length).length := by
        refine nodup_len_le ?_ fun y hy => ?_
        · rw [List.Nodup, List.pairwise_map]
          refine (List.nodup_range.filter _).imp_of_mem fun {i j} hi hj hne => ?_
          exact hd i j (List.mem_range.1 (List.mem_filter.1 hi).1) (List.mem_range.1 (List.mem_filter.1 hj).1) hne
        · obtain ⟨x, hx, rfl⟩ := List.mem_map.1 hy
          exact List.mem_range.2 (of_decide_eq_true (List.mem_filter.1 hx).2)
      rw [List.length_map, List.length_range] at this; exact this
    cases e : b w v
    · exfalso
      have hB : (v :: (List.range k).filter (b w)).length ≤ ((List.range k).filter fun x => decide (((List.range k).filter (b x)).length < ((List.range k).filter (b w)).length)).length := by
        refine nodup_len_le (List.nodup_cons.2 ⟨(by intro hm; rw [(List.mem_filter.1 hm).2] at e; cases e), List.nodup_range.filter _⟩) fun x hx => ?_
        rcases List.mem_cons.1 hx with rfl | hx
        · exact List.mem_filter.2 ⟨List.mem_range.2 hv, decide_eq_true hlt⟩
        · obtain ⟨x1, x2⟩ := List.mem_filter.1 hx
          have hxk := List.mem_range.1 x1
          refine List.mem_filter.2 ⟨x1, decide_eq_true ?_⟩
          have hne : x ≠ w := fun q => by subst q; rw [h.irr] at x2; cases x2
          rcases Nat.lt_trichotomy ((List.range k).filter (b x)).length ((List.range k).filter (b w)).length with c | c | c
          · exact c
          · exact absurd c (hd x w hxk hw hne)
          · have := ih x hxk c
            rw [h.asym x2] at this; cases this
      rw [List.length_cons] at hB
      omega
    · rfl
end
theorem row2_ev : tourn_Row 300 2 [(1, 0)] = some ([1, 0], 0) := by decide +kernel
theorem beaten_ev {n : Int} {l : List (Int × Int)} (hg : good n l) : LT_TopBeaten 300 n l = some true := by
  unfold LT_TopBeaten
  have h0 : SE_Ints 300 [1, 0] [1, 0] = some true := by rw [SE_Ints_ev (by simp) (by simp), decide_eq_true rfl]
  obtain ⟨e, hc, hE⟩ := check_ev hg
  rcases row_ev hg hc hE with ⟨h, q⟩ | ⟨h, q⟩
  · rw [q, Option.bind_some, row2_ev, Option.bind_some]
    dsimp only
    rw [if_neg (by decide), h0, Option.bind_some, if_pos rfl, Option.bind_some, if_neg (by decide), if_pos (by rw [bne_iff_ne]; exact h)]; rfl
  · subst h
    obtain ⟨k, rfl, h1, h8, h24, hin, he, hT, _⟩ := ck_zero hE
    have hs : tourn_Scores 300 (k : Int) l = some (rowN ((List.range k).map (sc l k)), 0) := by
      rcases scores_ev hg hc hE with ⟨h, _⟩ | ⟨_, q⟩
      · exact absurd rfl h
      · exact q k rfl
    have hk' : tourn_Kings 300 (k : Int) l = some (rowN ((List.range k).filter (isK k l)), 0) := by
      rcases kings_ev hg hc hE with ⟨h, _⟩ | ⟨_, q⟩
      · exact absurd rfl h
      · exact q k rfl
    have hperm := rowT_perm (gL l) k
    have hlen : (rowT (gL l) k).length = k := by rw [hperm.length_eq, List.length_range]
    have hsl : ((List.range k).map (sc l k)).length = k := by rw [List.length_map, List.length_range]
    have htw := twice_ev (os := rowN ((List.range k).map (sc l k))) (by rw [rowN_len]; omega)
    have hnd : (rowN ((List.range k).map (sc l k))).Nodup ↔ ∀ i j, i < k → j < k → i ≠ j → ((List.range k).filter (gL l i)).length ≠ ((List.range k).filter (gL l j)).length := by
      unfold rowN
      rw [List.map_map, List.Nodup, List.pairwise_map]
      constructor
      · intro h i j hi hj hne
        have key : ∀ i j, i < j → j < k → ((List.range k).filter (gL l i)).length ≠ ((List.range k).filter (gL l j)).length := by
          intro i j hij hj
          have := List.pairwise_iff_getElem.1 h i j (by simp; omega) (by simp; omega) hij
          simp only [List.getElem_range, Function.comp, sc] at this
          omega
        rcases Nat.lt_or_gt_of_ne hne with c | c
        · exact key i j c hj
        · exact fun e => key j i c hi e.symm
      · intro h
        refine List.nodup_range.imp_of_mem fun {i j} hi hj hne e => ?_
        have := h i j (List.mem_range.1 hi) (List.mem_range.1 hj) hne
        simp only [Function.comp, sc] at e
        omega
    rw [q k rfl, Option.bind_some, row2_ev, Option.bind_some]
    dsimp only
    rw [if_neg (by decide), h0, Option.bind_some, if_pos rfl, Option.bind_some, if_neg (by decide), if_neg (by decide)]
    rcases topo_ev h1 h8 hin hg he with ⟨t, t1, t2, t3, t4⟩ | ⟨t1, S, S1, S2, S3⟩
    · have htk : ∀ v ∈ t, v < k := fun v hv => (t3 v).1 hv
      have hpw := topo_pw hT t2 htk t4
      have htr : ∀ x y z, gL l x y = true → gL l y z = true → gL l x z = true := by
        intro x y z hxy hyz
        obtain ⟨hx, hy⟩ := hT.lt x y hxy
        obtain ⟨_, hz⟩ := hT.lt y z hyz
        cases e : gL l x z
        · exfalso
          have hne : x ≠ z := fun q => by subst q; rw [hT.asym hxy] at hyz; cases hyz
          exact no3 hT hpw ((t3 x).2 hx) ((t3 y).2 hy) ((t3 z).2 hz) hxy hyz (hT.no hx hz hne e)
        · rfl
      have hrow : rowT (gL l) k = t := by
        refine pw_unique hT (ch_pw hT htr (rowT_ch hT k (Nat.le_refl _))) hpw fun x => ?_
        rw [hperm.mem_iff, List.mem_range, t3]
      have hdist : ∀ i j, i < k → j < k → i ≠ j → ((List.range k).filter (gL l i)).length ≠ ((List.range k).filter (gL l j)).length := by
        have key : ∀ i j, i < k → j < k → gL l i j = true → ((List.range k).filter (gL l j)).length < ((List.range k).filter (gL l i)).length := fun i j hi hj hij =>
          To.filter_lt (List.range k) (fun x _ hx => htr i j x hij hx) ⟨j, List.mem_range.2 hj, hij, hT.irr j⟩
        intro i j hi hj hne
        cases c : gL l i j
        · have := key j i hj hi (hT.no hi hj hne c); omega
        · have := key i j hi hj c; omega
      have htwf : R1_Twice 300 (rowN ((List.range k).map (sc l k))) = some false := by
        rcases htw with ⟨q, _⟩ | ⟨_, q⟩
        · exact q
        · exact absurd (hnd.2 hdist) q
      obtain ⟨v, r, hvr⟩ : ∃ v r, t = v :: r := by
        cases t with
        | nil => have := (t3 0).2 (by omega); cases this
        | cons v r => exact ⟨v, r, rfl⟩
      have hunb : ∀ u, gL l u v = false := by
        intro u
        cases e : gL l u v
        · rfl
        · have hu := (hT.lt u v e).1
          rw [hvr] at hpw t3
          rcases List.mem_cons.1 ((t3 u).2 hu) with q | hu2
          · subst q; rw [hT.irr] at e; cases e
          · have := (List.pairwise_cons.1 hpw).1 u hu2
            rw [hT.asym this] at e; cases e
      have hv : v < k := htk v (by rw [hvr]; exact List.mem_cons_self)
      have hks : (List.range k).filter (isK k l) = [v] := by
        have hm : ∀ w, w ∈ (List.range k).filter (isK k l) ↔ w = v := fun w => by
          rw [List.mem_filter, List.mem_range]
          constructor
          · rintro ⟨hw, h⟩; exact (king_only hT hv hunb w).1 ((isK_iff h8 hin hw).1 h)
          · rintro rfl; exact ⟨hv, (isK_iff h8 hin hv).2 ((king_only hT hv hunb w).2 rfl)⟩
        have hn : ((List.range k).filter (isK k l)).Nodup := List.nodup_range.filter _
        match hq : (List.range k).filter (isK k l), hn, hm with
        | [], _, hm => exact absurd ((hm v).2 rfl) (by simp)
        | [a], _, hm => rw [(hm a).1 List.mem_cons_self]
        | a :: c :: r, hn, hm =>
          have e1 := (hm a).1 List.mem_cons_self
          have e2 := (hm c).1 (by simp)
          rw [e1, e2] at hn
          simp at hn
      have htl : t.length = k := by rw [← hrow]; exact hlen
      have htk1 : tk (rowN t) 1 = some [(v : Int)] := by
        unfold tk
        rw [if_pos (by rw [rowN_len]; omega), hvr]; rfl
      rw [t1, Option.bind_some, hs, Option.bind_some, hk', Option.bind_some]
      dsimp only
      rw [if_neg (by decide), if_neg (by decide), Option.bind_some, if_neg (by decide), rowN_len, hsl, if_neg (by simp), Option.bind_some, if_neg (by decide), rowN_len, hlen, if_neg (by simp), Option.bind_some, if_neg (by decide), htwf, Option.bind_some,
        if_neg (by decide), if_neg (by decide), hrow, SE_Ints_ev (by rw [rowN_len]; omega) (by rw [rowN_len]; omega), decide_eq_true rfl, Option.bind_some, if_pos rfl, Option.bind_some, if_pos rfl, htk1, Option.bind_some, hks]
      have e1 : SE_Ints 300 (rowN [v]) [(v : Int)] = some true := by
        rw [SE_Ints_ev (by rw [rowN_len]; simp) (by rw [rowN_len]; simp)]; exact congrArg some (decide_eq_true rfl)
      rw [e1]; rfl
    · have hnot : ¬ (rowN ((List.range k).map (sc l k))).Nodup := by
        intro hn
        have hd := hnd.1 hn
        have hp := Nat.pow_le_pow_right (n := 2) (by omega) h8
        have hS16 : S < 65536 := by omega
        obtain ⟨w, hw, hmax⟩ := To.exists_max (fun u => ((List.range k).filter (gL l u)).length) (memb S) (memb_ne hS16 S1)
        obtain ⟨u, u1, u2⟩ := S3 w ((mem_memb hS16).1 hw)
        obtain ⟨hu, hwk⟩ := hT.lt u w u2
        have hle := hmax u ((mem_memb hS16).2 u1)
        have hne : u ≠ w := fun q => by subst q; rw [hT.irr] at u2; cases u2
        have := hd u w hu hwk hne
        have hb := score_beats hT hd k u hu (by omega) w hwk (by omega)
        rw [hT.asym u2] at hb; cases hb
      have htwt : R1_Twice 300 (rowN ((List.range k).map (sc l k))) = some true := by
        rcases htw with ⟨_, q⟩ | ⟨q, _⟩
        · exact absurd q hnot
        · exact q
      rw [t1, Option.bind_some, hs, Option.bind_some, hk', Option.bind_some]
      dsimp only
      rw [if_neg (by decide), if_neg (by decide), Option.bind_some, if_neg (by decide), rowN_len, hsl, if_neg (by simp), Option.bind_some, if_neg (by decide), rowN_len, hlen, if_neg (by simp), Option.bind_some, if_neg (by decide), htwt, Option.bind_some, if_pos (by decide)]
      unfold mErr
      rw [Option.bind_some]; rfl
theorem topBeaten_any (w : World) (htc : TyCell w) (n : Int) (hn : (Lit.int .i64 n).wf = true) (A : Option Addr) (cap : Nat) (l : List (Int × Int)) (hr : ReadsL w w.heap.size A l) (hl : l.length ≤ maxLen) :
    Calls Tryd.prog 4 #[.int .i64 n, .slice A l.length cap] w fun e w' => e = .returned (.bool true) ∧ Below w.heap.size w w' :=
  LT_TopBeaten_ok w htc cap hr (beaten_ev ⟨hn, hl⟩)
end Go.Proofs.YtoiidngnlhhanaaDoor
