import Derived.Test.YtlecmgdkoanghaaGy
import Derived.Test.YtlecmgdkoanghaaCLs
import Derived.Test.YtlecmgdkoanghaaCb
/- plain: ColorBy holds -/
set_option linter.all false
set_option maxRecDepth 100000
namespace Go.Proofs.Ytlecmgdkoanghaa
open Go.RowKit Go.Shelf Pl
theorem nodup_len_le : ∀ {l l' : List Nat}, l.Nodup → (∀ x ∈ l, x ∈ l') → l.length ≤ l'.length
  | [], _, _, _ => Nat.zero_le _
  | x :: l, l', hn, h => by
    obtain ⟨h1, h2⟩ := List.nodup_cons.1 hn
    have hx := h x List.mem_cons_self
    have := nodup_len_le (l := l) (l' := l'.erase x) h2 fun y hy => by
      rw [List.mem_erase_of_ne (fun e => h1 (by rw [← e]; exact hy))]
      exact h y (List.mem_cons_of_mem _ hy)
    rw [List.length_erase_of_mem hx] at this
    have := List.length_pos_of_mem hx
    simp; omega
theorem rowN_of {os : List Int} {k : Nat} (h : allIn os 0 ((k : Int) - 1) = true) : ∃ os' : List Nat, os = rowN os' ∧ ∀ x ∈ os', x < k := by
  refine ⟨os.map Int.toNat, ?_, ?_⟩
  · unfold rowN
    rw [List.map_map]
    refine (List.map_id os).symm.trans (List.map_congr_left fun x hx => ?_)
    have := List.all_eq_true.1 h x hx
    simp at this ⊢; omega
  · intro x hx
    obtain ⟨y, hy, rfl⟩ := List.mem_map.1 hx
    have := List.all_eq_true.1 h y hy
    simp at this; omega
theorem rowN_nodup {os : List Nat} (h : (rowN os).Nodup) : os.Nodup := by
  unfold rowN at h
  unfold List.Nodup at *
  rw [List.pairwise_map] at h
  exact h.imp fun hh e => hh (by rw [e])
theorem Gr.start {a : Nat → Nat → Bool} {os : List Nat} {k : Nat} : Gr a os k 0 (List.replicate k (-1)) :=
  ⟨List.length_replicate, fun v hv _ => by simp [List.getD, hv], fun s hs => by omega⟩
theorem aL_irr {l : List (Int × Int)} (hne : ∀ p ∈ l, p.1 ≠ p.2) (v : Nat) : aL l v v = false := by
  refine Bool.eq_false_iff.2 fun q => ?_
  obtain ⟨p, hp, h⟩ := besL_iff.1 q
  exact hne p hp (by rcases h with ⟨a, b⟩ | ⟨a, b⟩ <;> rw [a, b])
theorem aL_lt {k : Nat} {l : List (Int × Int)} (hin : InL k l) {v u : Nat} (h : aL l v u = true) : v < k ∧ u < k := by
  obtain ⟨p, hp, h⟩ := besL_iff.1 h
  have := hin p hp
  rcases h with ⟨a, b⟩ | ⟨a, b⟩ <;> omega
theorem by_ev {k : Nat} {l : List (Int × Int)} (h1 : 1 ≤ k) (h8 : k ≤ 8) (h24 : l.length ≤ 24) (hin : InL k l) (hne : ∀ p ∈ l, p.1 ≠ p.2) (os : List Int) :
    (∃ os' : List Nat, os = rowN os' ∧ os'.length = k ∧ (∀ x ∈ os', x < k) ∧ os'.Nodup ∧ ∃ out, color_By 300 (k : Int) l os = some (out, 0) ∧ Gr (aL l) os' k k out) ∨
    ∃ e : Int, e ≠ 0 ∧ color_By 300 (k : Int) l os = some ([], e) ∧ ((os.length ≠ k ∧ e = 3) ∨ (os.length = k ∧ allIn os 0 ((k : Int) - 1) = false ∧ e = 1) ∨ (os.length = k ∧ allIn os 0 ((k : Int) - 1) = true ∧ ¬ os.Nodup ∧ e = 6)) := by
  have hg : good (k : Int) l := ⟨wf8 h8, by unfold maxLen; omega⟩
  have he := errG_ok h1 h8 h24 hin hne
  unfold color_By
  rw [mCheck_ev hg, he, Option.bind_some, if_neg (by decide), w64 (x := (k : Int) - 1) (by omega) (by omega)]
  by_cases hl : os.length = k
  · rw [if_neg (by rw [bne_iff_ne]; omega), core_All_ev _ _ (by omega) (by omega), Option.bind_some]
    cases ha : allIn os 0 ((k : Int) - 1)
    · rw [if_neg (by decide)]
      exact .inr ⟨1, by decide, rfl, .inr (.inl ⟨hl, rfl, rfl⟩)⟩
    · rw [if_pos rfl]
      obtain ⟨os', rfl, hok⟩ := rowN_of ha
      have hol : os'.length = k := by rw [← hl]; unfold rowN; rw [List.length_map]
      rcases by_L1 (os := rowN os') (by omega) 300 0 (by omega) (by omega) (by simp) with ⟨q1, q2⟩ | ⟨q1, q2⟩
      · have hn := rowN_nodup q2
        refine .inl ⟨os', rfl, hol, hok, hn, ?_⟩
        have hr := besM_row hin
        have hp := Nat.pow_le_pow_right (n := 2) (by omega) h8
        obtain ⟨out, o1, o2⟩ := by_L2 (a := aL l) (bes := besM k l) h8 hr.1 (fun v => getD_lt (fun m hm => by have := hr.2 m hm; omega) v) (fun v u => adj_besL hin v u) (fun v u h => (aL_lt hin h).2) hol hok hn (aL_irr hne) 300 0 _ (by omega) (by omega) Gr.start
        refine ⟨out, ?_, o2⟩
        rw [show color_By_L1 300 (rowN os') 300 0 = _ from q1, Option.bind_some]
        dsimp only
        have hrep : slRep [-1] (k : Int) = some (List.replicate k (-1)) := by
          show (if 1 ≤ (k : Int) ∧ (k : Int) ≤ 8 then some (List.replicate (k : Int).toNat (-1)) else none) = _
          rw [if_pos ⟨by omega, by omega⟩, Int.toNat_natCast]
        rw [mBeside_ev hg he, Option.bind_some, hrep, Option.bind_some]
        rw [show color_By_L2 300 (rowN os') (besM k l) 300 0 (List.replicate k (-1)) = _ from o1]; rfl
      · rw [show color_By_L1 300 (rowN os') 300 0 = _ from q1, Option.bind_some]
        exact .inr ⟨6, by decide, rfl, .inr (.inr ⟨hl, rfl, q2, rfl⟩)⟩
  · rw [if_pos (by rw [bne_iff_ne]; omega)]
    exact .inr ⟨3, by decide, rfl, .inl ⟨hl, rfl⟩⟩
/-! ### what the colours tell -/
theorem pos_of {os : List Nat} {k : Nat} (hol : os.length = k) (hok : ∀ x ∈ os, x < k) (hn : os.Nodup) {v : Nat} (hv : v < k) : ∃ s, s < k ∧ os.getD s 0 = v := by
  have hm : v ∈ os := Classical.byContradiction fun q => by
    have := nodup_len_le (l := v :: os) (l' := List.range k) (List.nodup_cons.2 ⟨q, hn⟩) (fun x hx => by
      rcases List.mem_cons.1 hx with rfl | hx
      · exact List.mem_range.2 hv
      · exact List.mem_range.2 (hok x hx))
    rw [List.length_cons, List.length_range] at this; omega
  obtain ⟨i, hi, e⟩ := List.getElem_of_mem hm
  exact ⟨i, by omega, by simp [List.getD, hi, e]⟩
def deg (a : Nat → Nat → Bool) (k v : Nat) : Nat := ((List.range k).filter (a v)).length
structure Painted (a : Nat → Nat → Bool) (k : Nat) (out : List Int) : Prop where
  len : out.length = k
  col : ∀ v, v < k → ∃ c : Nat, out.getD v (-1) = (c : Int) ∧ c < k ∧ c ≤ deg a k v
  ne : ∀ u v, u < k → v < k → u ≠ v → a u v = true → out.getD u (-1) ≠ out.getD v (-1)
theorem painted {a : Nat → Nat → Bool} {os : List Nat} {k : Nat} {out : List Int} (hs : ∀ i j, a i j = a j i) (hk : ∀ u v, a u v = true → v < k) (hol : os.length = k) (hok : ∀ x ∈ os, x < k) (hn : os.Nodup) (G : Gr a os k k out) : Painted a k out := by
  refine ⟨G.len, fun v hv => ?_, fun u v hu hv huv h => ?_⟩
  · obtain ⟨s, s1, s2⟩ := pos_of hol hok hn hv
    obtain ⟨c, c1, c2, c3, c4⟩ := G.co s s1
    rw [s2] at c1 c3
    refine ⟨c, c1, by omega, ?_⟩
    have := nodup_len_le (l := List.range c) (l' := ((List.range k).filter (a v)).map fun x => (out.getD x (-1)).toNat) List.nodup_range (fun d hd => by
      obtain ⟨r, r1, r2, r3⟩ := c3 d (List.mem_range.1 hd)
      exact List.mem_map.2 ⟨_, List.mem_filter.2 ⟨List.mem_range.2 (hk _ _ r2), r2⟩, by rw [r3]; rfl⟩)
    rw [List.length_range, List.length_map] at this
    exact this
  · obtain ⟨s, s1, s2⟩ := pos_of hol hok hn hu
    obtain ⟨t, t1, t2⟩ := pos_of hol hok hn hv
    have hst : s ≠ t := fun e => huv (by rw [← s2, ← t2, e])
    rcases Nat.lt_or_gt_of_ne hst with q | q
    · obtain ⟨c, c1, _, _, c4⟩ := G.co t t1
      have := c4 s q (by rw [s2, t2, hs]; exact h)
      rw [t2] at c1; rw [s2] at this; rw [c1]; exact this
    · obtain ⟨c, c1, _, _, c4⟩ := G.co s s1
      have := c4 t q (by rw [s2, t2]; exact h)
      rw [s2] at c1; rw [t2] at this; rw [c1]; exact fun e => this e.symm
/-! ### the document's loops -/
theorem near_L1 {k : Nat} {l : List (Int × Int)} (hl : l.length ≤ 24) (h8 : k ≤ 8) (v : Nat) : ∀ (g j : Nat) (o : List Int), k < j + g → j ≤ k → o = (((List.range j).filter (aL l v)).map fun (x : Nat) => (x : Int)) →
    ∃ x, R1_Near_L1 300 (k : Int) l (v : Int) g o (j : Int) = some (((List.range k).filter (aL l v)).map (fun (x : Nat) => (x : Int)), x)
  | 0, j, o, h, hj, ho => by omega
  | g+1, j, o, h, hj, ho => by
    rw [R1_Near_L1_s]
    by_cases hlt : j < k
    · have hol : o.length ≤ j := by
        rw [ho, List.length_map]; have := List.length_filter_le (aL l v) (List.range j); rwa [List.length_range] at this
      rw [if_pos (by omega), R1_Beside_ev _ _ (by omega) (by omega), Option.bind_some, w64n (by omega)]
      by_cases c : aL l v j = true
      · rw [if_pos (show besL l (v : Int) (j : Int) = true from c)]
        unfold app
        rw [if_pos (by omega), Option.bind_some]
        refine near_L1 hl h8 v g (j+1) _ (by omega) (by omega) ?_
        rw [ho, List.range_succ, List.filter_append, List.map_append, List.filter_cons, if_pos c]; rfl
      · rw [if_neg (show ¬ besL l (v : Int) (j : Int) = true from c)]
        refine near_L1 hl h8 v g (j+1) _ (by omega) (by omega) ?_
        rw [ho, List.range_succ, List.filter_append, List.map_append, List.filter_cons, if_neg c]; simp
    · rw [if_neg (by omega)]
      have : j = k := by omega
      subst this
      exact ⟨_, by rw [ho]⟩
theorem near_ev {k : Nat} {l : List (Int × Int)} (hl : l.length ≤ 24) (h8 : k ≤ 8) (v : Nat) : R1_Near 300 (k : Int) l (v : Int) = some (((List.range k).filter (aL l v)).map fun (x : Nat) => (x : Int)) := by
  obtain ⟨x, hx⟩ := near_L1 hl h8 v 300 0 [] (by omega) (by omega) rfl
  unfold R1_Near
  rw [show R1_Near_L1 300 (k : Int) l (v : Int) 300 [] 0 = _ from hx]; rfl
theorem deg_le (a : Nat → Nat → Bool) (k v : Nat) : deg a k v ≤ k := by
  have := List.length_filter_le (a v) (List.range k); rwa [List.length_range] at this
theorem cb_L2 {k : Nat} {l : List (Int × Int)} (hl : l.length ≤ 24) (h8 : k ≤ 8) : ∀ (g j D : Nat), k < j + g → j ≤ k → D ≤ k → (∀ v, v < j → deg (aL l) k v ≤ D) →
    ∃ D' x, L3_ColorBy_L2 300 (k : Int) l g (D : Int) (j : Int) = some (((D' : Nat) : Int), x) ∧ D' ≤ k ∧ ∀ v, v < k → deg (aL l) k v ≤ D'
  | 0, j, D, h, hj, _, _ => by omega
  | g+1, j, D, h, hj, hD, hd => by
    rw [L3_ColorBy_L2_s]
    by_cases hlt : j < k
    · rw [if_pos (by omega), near_ev hl h8, Option.bind_some, Option.bind_some, w64n (by omega), List.length_map]
      have e : ((List.range k).filter (aL l j)).length = deg (aL l) k j := rfl
      have hdk := deg_le (aL l) k j
      rw [e]
      by_cases c : D < deg (aL l) k j
      · rw [if_pos (by omega)]
        exact cb_L2 hl h8 g (j+1) _ (by omega) (by omega) hdk (fun v hv => by
          by_cases q : v = j
          · rw [q]; exact Nat.le_refl _
          · have := hd v (by omega); omega)
      · rw [if_neg (by omega)]
        exact cb_L2 hl h8 g (j+1) _ (by omega) (by omega) hD (fun v hv => by
          by_cases q : v = j
          · rw [q]; omega
          · exact hd v (by omega))
    · have : j = k := by omega
      subst this
      rw [if_neg (by omega)]
      exact ⟨D, _, rfl, hD, hd⟩
theorem cb_L1 {k : Nat} {l : List (Int × Int)} {out : List Int} (hl : l.length ≤ 24) (hin : InL k l) (hne : ∀ p ∈ l, p.1 ≠ p.2) (P : Painted (aL l) k out) : ∀ (g j : Nat), l.length < j + g → j ≤ l.length →
    ∃ x, L3_ColorBy_L1 300 l out g (j : Int) = some (.inl x)
  | 0, j, h, hj => by omega
  | g+1, j, h, hj => by
    rw [L3_ColorBy_L1_s]
    by_cases hlt : j < l.length
    · obtain ⟨x, y, ex, ey, hx, hy⟩ := hin.at_ hlt
      have hp := hne l[j] (List.getElem_mem hlt)
      have hc := P.ne x y hx hy (fun e => hp (by rw [ex, ey, e])) (besL_iff.2 ⟨l[j], List.getElem_mem hlt, .inl ⟨ex, ey⟩⟩)
      rw [if_pos (by omega), ix_nat hlt, Option.bind_some, ex, ix_at (-1) (by rw [P.len]; exact hx), Option.bind_some, Option.bind_some, ey, ix_at (-1) (by rw [P.len]; exact hy), Option.bind_some, if_neg (by rw [beq_iff_eq]; exact hc), w64n (by omega)]
      exact cb_L1 hl hin hne P g (j+1) (by omega) (by omega)
    · rw [if_neg (by omega)]; exact ⟨_, rfl⟩
theorem most_L1 {out : List Int} (hl : out.length < 300) : ∀ (g j : Nat) (M : Int), out.length < j + g → j ≤ out.length → M ∈ out → (∀ x ∈ out.take j, x ≤ M) →
    ∃ M' y, R3_Most_L1 300 out g M (j : Int) = some (M', y) ∧ M' ∈ out ∧ ∀ x ∈ out, x ≤ M'
  | 0, j, M, h, hj, _, _ => by omega
  | g+1, j, M, h, hj, hM, hx => by
    rw [R3_Most_L1_s]
    by_cases hlt : j < out.length
    · rw [if_pos (by omega), ix_nat hlt, Option.bind_some, Option.bind_some, w64n (by omega)]
      have hs : out.take (j+1) = out.take j ++ [out[j]] := by rw [List.take_succ_eq_append_getElem hlt]
      by_cases c : M < out[j]
      · rw [if_pos c]
        refine most_L1 hl g (j+1) _ (by omega) (by omega) (List.getElem_mem hlt) fun x h => ?_
        rw [hs] at h
        rcases List.mem_append.1 h with h | h
        · have := hx x h; omega
        · rw [List.mem_singleton.1 h]; exact Int.le_refl _
      · rw [if_neg c]
        refine most_L1 hl g (j+1) _ (by omega) (by omega) hM fun x h => ?_
        rw [hs] at h
        rcases List.mem_append.1 h with h | h
        · exact hx x h
        · rw [List.mem_singleton.1 h]; omega
    · have : j = out.length := by omega
      subst this
      rw [if_neg (by omega)]
      rw [List.take_length] at hx
      exact ⟨M, _, rfl, hM, hx⟩
theorem most_ev {out : List Int} (hl : out.length < 300) (h0 : 0 < out.length) : ∃ M, R3_Most 300 out = some M ∧ M ∈ out ∧ ∀ x ∈ out, x ≤ M := by
  obtain ⟨M, y, m1, m2, m3⟩ := most_L1 hl 300 0 out[0] (by omega) (by omega) (List.getElem_mem h0) (by simp)
  refine ⟨M, ?_, m2, m3⟩
  unfold R3_Most
  rw [show ix out 0 = some out[0] from ix_nat h0, Option.bind_some, show R3_Most_L1 300 out 300 out[0] 0 = _ from m1]; rfl
theorem by_says {n : Int} {l : List (Int × Int)} (hg : good n l) (os : List Int) : L3_ColorBy 300 n l os = some true := by
  unfold L3_ColorBy
  rw [colorFact_ev, Option.bind_some, if_pos rfl]
  by_cases he : errG n l = 0
  · obtain ⟨k, rfl, h1, h8, h24, hin, hne⟩ := errG_zero he
    rcases by_ev h1 h8 h24 hin hne os with ⟨os', rfl, hol, hok, hn, out, o1, G⟩ | ⟨e, e1, e2, _⟩
    · have P := painted (aL_sym l) (fun u v h => (aL_lt hin h).2) hol hok hn G
      have hlen := P.len
      obtain ⟨x, hx⟩ := cb_L1 h24 hin hne P 300 0 (by omega) (by omega)
      obtain ⟨D, y, d1, d2, d3⟩ := cb_L2 (l := l) h24 h8 300 0 0 (by omega) (by omega) (by omega) (fun v hv => by omega)
      obtain ⟨M, m1, m2, m3⟩ := most_ev (out := out) (by omega) (by omega)
      have hall : ∀ z ∈ out, 0 ≤ z ∧ z ≤ (k : Int) - 1 := fun z hz => by
        obtain ⟨v, hv, rfl⟩ := List.getElem_of_mem hz
        obtain ⟨c, c1, c2, _⟩ := P.col v (by omega)
        have e : out.getD v (-1) = out[v] := by simp [List.getD, hv]
        rw [e] at c1; omega
      have hMb := hall M m2
      obtain ⟨v, hv, hvM⟩ := List.getElem_of_mem m2
      obtain ⟨c, c1, c2, c3⟩ := P.col v (by omega)
      have evM : out.getD v (-1) = M := by rw [← hvM]; simp [List.getD, hv]
      have hDv := d3 v (by omega)
      have hchi : chi (aL l) k ≤ c + 1 := chi_le h1 (by omega) (fun u => (out.getD u (-1)).toNat) (Proper.mk' (fun u hu => by
        obtain ⟨d, d1, d2, _⟩ := P.col u hu
        have : out.getD u (-1) ≤ M := m3 _ (by rw [show out.getD u (-1) = out[u]'(by omega) by simp [List.getD, show u < out.length by omega]]; exact List.getElem_mem _)
        rw [d1] at this ⊢
        show d < c + 1
        omega) (fun u w hu hw huw h e => by
        obtain ⟨d, d1, _⟩ := P.col u hu
        obtain ⟨d', d1', _⟩ := P.col w hw
        refine P.ne u w hu hw huw h ?_
        rw [d1, d1'] at e ⊢
        have e' : d = d' := e
        rw [e']))
      rw [o1, Option.bind_some]
      dsimp only
      rw [if_neg (by decide), least_ev h1 h8 h24 hin hne, Option.bind_some]
      dsimp only
      rw [if_neg (by decide), hlen, if_neg (by simp), Option.bind_some, if_neg (by decide), R1_Lines_big (by omega), he, Option.bind_some, if_neg (by decide), Option.bind_some, if_neg (by decide)]
      rw [show L3_ColorBy_L1 300 l out 300 0 = _ from hx, Option.bind_some]
      dsimp only
      rw [show L3_ColorBy_L2 300 (k : Int) l 300 0 0 = _ from d1, Option.bind_some, m1, Option.bind_some, w64 (x := (k : Int) - 1) (by omega) (by omega), R1_All_ev _ _ (by omega) (by omega), show allIn out 0 ((k : Int) - 1) = true from List.all_eq_true.2 fun z hz => decide_eq_true (hall z hz), Option.bind_some, if_pos rfl, w64 (x := M + 1) (by omega) (by omega)]
      dsimp only
      rw [w64 (x := (D : Int) + 1) (by omega) (by omega), if_pos (by omega), Option.bind_some, if_pos rfl, if_pos (by omega)]; rfl
    · rw [e2, Option.bind_some]
      dsimp only
      rw [if_pos (bne_iff_ne.2 e1), if_pos (by decide)]; rfl
  · have : color_By 300 n l os = some ([], errG n l) := by
      unfold color_By
      rw [mCheck_ev hg, Option.bind_some, if_pos (bne_iff_ne.2 he)]
    rw [this, Option.bind_some]
    dsimp only
    rw [if_pos (bne_iff_ne.2 he), if_pos (by decide)]; rfl
theorem colorBy_any (w : World) (n : Int) (hn : (Lit.int .i64 n).wf = true) (A : Option Addr) (cap : Nat) (l : List (Int × Int)) (hr : ReadsL w w.heap.size A l) (hl : l.length ≤ maxLen) (A2 : Option Addr) (cap2 : Nat) (os : List Int) (hr2 : ReadsI w w.heap.size A2 os ∧ os.length ≤ 17592186044416 ∧ os.length ≤ cap2 ∧ ∀ x ∈ os, (Lit.int .i64 x).wf = true) :
    Calls Try.prog 3 #[.int .i64 n, .slice A l.length cap, .slice A2 os.length cap2] w fun e w' => e = .returned (.bool true) ∧ Below w.heap.size w w' :=
  L3_ColorBy_ok w cap hr cap2 hr2.1 hr2.2.2.1 (by_says ⟨hn, hl⟩ os)
end Go.Proofs.Ytlecmgdkoanghaa
