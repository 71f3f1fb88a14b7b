import Derived.Test.YtpbkepajgdmbpaaWv
import Derived.Test.YtpbkepajgdmbpaaF3
/- plain: PruferOften holds -/
set_option linter.all false
set_option maxRecDepth 100000
namespace Go.Proofs.Ytpbkepajgdmbpaa
open Go.RowKit Pl
theorem take_cnt (m : List Int) (i : Int) (j : Nat) (h : j < m.length) : ((m.take (j+1)).filter (fun x => x == i)).length = ((m.take j).filter (fun x => x == i)).length + (if (m[j] == i) = true then 1 else 0) := by
  rw [List.take_add_one, List.filter_append, List.length_append, List.getElem?_eq_getElem h]
  by_cases e : (m[j] == i) = true
  · rw [if_pos e]; simp [e]
  · rw [if_neg e]; simp [e]
theorem often_L2 {m : List Int} {i : Int} (hm : m.length < 100) : ∀ (g j : Nat) (c : Int), m.length < j + g → j ≤ m.length → c = 1 + (((m.take j).filter (fun x => x == i)).length : Int) →
    ∃ x, L3_PruferOften_L2 300 m i g c (j : Int) = some (1 + ((m.filter (fun x => x == i)).length : Int), x)
  | 0, j, c, h, hj, _ => by omega
  | g+1, j, c, h, hj, hc => by
    rw [L3_PruferOften_L2_s]
    have hle : ((m.take j).filter (fun x => x == i)).length ≤ 100 := by
      have := List.length_filter_le (fun x => x == i) (m.take j)
      rw [List.length_take] at this; omega
    by_cases hlt : j < m.length
    · have ht := take_cnt m i j hlt
      rw [if_pos (by omega), ix_nat hlt, Option.bind_some, w64n (by omega)]
      by_cases e : (m[j] == i) = true
      · rw [if_pos e] at ht ⊢
        rw [w64 (by omega) (by omega)]
        exact often_L2 hm g (j+1) _ (by omega) (by omega) (by omega)
      · rw [if_neg e] at ht ⊢
        exact often_L2 hm g (j+1) _ (by omega) (by omega) (by omega)
    · rw [if_neg (by omega)]
      have : j = m.length := by omega
      subst this
      rw [List.take_length] at hc
      exact ⟨_, by rw [hc]⟩
theorem occ_map (ps : List (Nat × Nat)) (i : Nat) : ((ps.map (fun p => (p.2 : Int))).filter (fun x => x == (i : Int))).length = occ i ps := by
  unfold occ
  rw [List.filter_map, List.length_map]
  congr 1
  apply List.filter_congr
  intro x _
  show ((x.2 : Int) == (i : Int)) = (x.2 == i)
  rw [Bool.eq_iff_iff, beq_iff_eq, beq_iff_eq]; omega
theorem often_L1 {k : Nat} {l : List (Int × Int)} {ps : List (Nat × Nat)} (G : Good k l) (hp : ps.length < 100) (hc : ∀ v, v < k → dg (adB k l) (all k) v = occ v ps + 1) : ∀ (g i : Nat), k < i + g → i ≤ k →
    ∃ x, L3_PruferOften_L1 300 (k : Int) l (ps.map (fun p => (p.2 : Int))) g (i : Int) = some (.inl x)
  | 0, i, h, hi => by omega
  | g+1, i, h, hi => by
    have hk := G.le; have hlen := G.len
    rw [L3_PruferOften_L1_s]
    by_cases hlt : i < k
    · obtain ⟨x, hx⟩ := often_L2 (m := ps.map (fun p => (p.2 : Int))) (i := (i : Int)) (by simpa using hp) 300 0 1 (by simp; omega) (by omega) (by simp)
      rw [if_pos (by omega), show L3_PruferOften_L2 300 (ps.map (fun p => (p.2 : Int))) (i : Int) 300 1 0 = _ from hx, Option.bind_some, near_ev (by omega) (by omega) G.inl, Option.bind_some, List.length_map, near_dg (by omega) G.inl, hc i hlt, occ_map, w64n (by omega)]
      rw [if_neg (by simp; omega)]
      exact often_L1 G hp hc g (i+1) (by omega) (by omega)
    · rw [if_neg (by omega)]; exact ⟨_, rfl⟩
theorem fact_ev : L3_pruferFact 300 = some true := by decide +kernel
theorem often_ev {n : Int} {l : List (Int × Int)} (hg : good n l) : L3_PruferOften 300 n l = some true := by
  unfold L3_PruferOften
  rw [fact_ev, Option.bind_some, if_pos rfl]
  by_cases he : errT n l = 0
  · obtain ⟨k, rfl, G⟩ := good_of hg he
    by_cases h2 : k < 2
    · rw [write_one G h2]; rfl
    · obtain ⟨ps, R', p1, p2, p3, p4, p5, p6, p7, _⟩ := write_good G (by omega)
      have hk := G.le
      have hc := pl_cnt (fun a b h => (trB G).sym a b h) (adB_ne G) p3 (fun v hv => by have : v < k := of_decide_eq_true hv; omega) p7
      obtain ⟨x, hx⟩ := often_L1 G (by omega) (fun v hv => hc v (decide_eq_true hv)) 300 0 (by omega) (by omega)
      rw [p1, Option.bind_some, if_neg (show ¬ (((0 : Int) != 0) = true) by decide), tree3_ev hg, he, Option.bind_some, if_neg (by decide)]
      dsimp only
      rw [show L3_PruferOften_L1 300 (k : Int) l (ps.map (fun p => (p.2 : Int))) 300 0 = _ from hx]; rfl
  · rw [write_bad hg he, Option.bind_some, if_pos (by simpa using he)]; rfl
theorem pruferOften_any (w : World) (n : Int) (hn : (Lit.int .i64 n).wf = true) (A : Option Addr) (cap : Nat) (l : List (Int × Int)) (hr : ReadsL w w.heap.size A l) (hl : l.length ≤ maxLen) :
    Calls Try.prog 4 #[.int .i64 n, .slice A l.length cap] w fun e w' => e = .returned (.bool true) ∧ Below w.heap.size w w' :=
  L3_PruferOften_ok w cap hr (often_ev ⟨hn, hl⟩)
end Go.Proofs.Ytpbkepajgdmbpaa
