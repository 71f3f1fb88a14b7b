import Derived.Test.YtgnbholhgcbhfaaAl
import Derived.Test.YtgnbholhgcbhfaaWi
/- plain: what graph.Without gives -/
set_option linter.all false
set_option maxRecDepth 100000
namespace Go.Proofs.Ytgnbholhgcbhfaa
open Go.RowKit Go.Shelf Pl
def dnI (i v : Int) : Int := if i < v then v - 1 else v
/-- the lines without a point -/
def lessL (i : Int) (l : List (Int × Int)) : List (Int × Int) := (l.filter fun p => p.1 != i && p.2 != i).map fun p => (dnI i p.1, dnI i p.2)
theorem dn_ev (F : Nat) {i v : Int} (hv : 0 ≤ v ∧ v ≤ 100) (hi : 0 ≤ i) : brambleweir_graph_Without_1 F i v = some (dnI i v) := by
  unfold brambleweir_graph_Without_1 dnI
  by_cases h : i < v
  · rw [if_pos h, if_pos h, w64 (by omega) (by omega)]
  · rw [if_neg h, if_neg h]
theorem without_L1 {l : List (Int × Int)} {i : Int} (hi : 0 ≤ i) (hl : l.length ≤ 24) (hin : ∀ p ∈ l, 0 ≤ p.1 ∧ p.1 ≤ 100 ∧ 0 ≤ p.2 ∧ p.2 ≤ 100) : ∀ (g j : Nat) (o : List (Int × Int)), l.length < j + g → j ≤ l.length → o.length ≤ j →
    graph_Without_L1 300 l i (fun z => brambleweir_graph_Without_1 300 i z) g (j : Int) o = some (o ++ lessL i (l.drop j))
  | 0, j, o, h, hj, ho => by omega
  | g+1, j, o, h, hj, ho => by
    rw [graph_Without_L1_s]
    by_cases hlt : j < l.length
    · have hp := hin l[j] (List.getElem_mem hlt)
      rw [if_pos (by omega), ix_nat hlt, Option.bind_some, w64n (by omega), dn_ev 300 (by omega) hi, dn_ev 300 (by omega) hi, List.drop_eq_getElem_cons hlt]
      have hc : lessL i (l[j] :: l.drop (j+1)) = (if (l[j].1 != i && l[j].2 != i) = true then [(dnI i l[j].1, dnI i l[j].2)] else []) ++ lessL i (l.drop (j+1)) := by
        unfold lessL
        rw [List.filter_cons]
        split <;> rfl
      rw [hc]
      by_cases c1 : (l[j].1 != i) = true
      · by_cases c2 : (l[j].2 != i) = true
        · rw [if_pos c1, if_pos c2, Option.bind_some, if_pos rfl, Option.bind_some, Option.bind_some, c1, c2, if_pos (show (true && true) = true from rfl)]
          unfold app
          rw [if_pos (by omega), Option.bind_some, without_L1 hi hl hin g (j+1) _ (by omega) (by omega) (by rw [List.length_append, List.length_singleton]; omega), List.append_assoc]
        · rw [if_pos c1, if_neg c2, Option.bind_some, if_neg (by decide), without_L1 hi hl hin g (j+1) _ (by omega) (by omega) (by omega), Bool.eq_false_iff.2 c2, Bool.and_false, if_neg (by decide), List.nil_append]
      · rw [if_neg c1, Option.bind_some, if_neg (by decide), without_L1 hi hl hin g (j+1) _ (by omega) (by omega) (by omega), Bool.eq_false_iff.2 c1, Bool.false_and, if_neg (by decide), List.nil_append]
    · rw [if_neg (by omega)]
      have : j = l.length := by omega
      subst this
      rw [List.drop_length]
      show some o = some (o ++ [])
      rw [List.append_nil]
theorem lessL_len (i : Int) (l : List (Int × Int)) : (lessL i l).length ≤ l.length := by
  unfold lessL; rw [List.length_map]; exact List.length_filter_le _ _
theorem lessL_mem {i : Int} {l : List (Int × Int)} {q : Int × Int} : q ∈ lessL i l ↔ ∃ p ∈ l, p.1 ≠ i ∧ p.2 ≠ i ∧ q = (dnI i p.1, dnI i p.2) := by
  unfold lessL
  rw [List.mem_map]
  constructor
  · rintro ⟨p, hp, rfl⟩
    obtain ⟨h1, h2⟩ := List.mem_filter.1 hp
    rw [Bool.and_eq_true, bne_iff_ne, bne_iff_ne] at h2
    exact ⟨p, h1, h2.1, h2.2, rfl⟩
  · rintro ⟨p, hp, h1, h2, rfl⟩
    exact ⟨p, List.mem_filter.2 ⟨hp, by rw [Bool.and_eq_true, bne_iff_ne, bne_iff_ne]; exact ⟨h1, h2⟩⟩, rfl⟩
theorem lessL_in {k i : Nat} {l : List (Int × Int)} (hin : InL k l) (hi : i < k) : InL (k-1) (lessL (i : Int) l) := by
  intro q hq
  obtain ⟨p, hp, h1, h2, rfl⟩ := lessL_mem.1 hq
  have := hin p hp
  unfold dnI
  refine ⟨?_, ?_, ?_, ?_⟩ <;> (dsimp only; split <;> omega)
theorem lessL_ne {i : Int} {l : List (Int × Int)} (hne : ∀ p ∈ l, p.1 ≠ p.2) : ∀ p ∈ lessL i l, p.1 ≠ p.2 := by
  intro q hq
  obtain ⟨p, hp, h1, h2, rfl⟩ := lessL_mem.1 hq
  have := hne p hp
  unfold dnI
  dsimp only
  split <;> split <;> omega
theorem lessL_aL {i : Nat} {l : List (Int × Int)} (u v : Nat) : aL (lessL (i : Int) l) u v = aL l (upN i u) (upN i v) := by
  rw [Bool.eq_iff_iff]
  unfold aL
  rw [besL_iff, besL_iff]
  have key : ∀ (x : Int) (w : Nat), x ≠ (i : Int) → (dnI (i : Int) x = (w : Int) ↔ x = ((upN i w : Nat) : Int)) := by
    intro x w hx
    unfold dnI upN
    constructor
    · intro h; split at h <;> split <;> omega
    · intro h; split at h <;> split <;> omega
  have upne : ∀ w, ((upN i w : Nat) : Int) ≠ (i : Int) := fun w => by unfold upN; split <;> omega
  constructor
  · rintro ⟨q, hq, h⟩
    obtain ⟨p, hp, h1, h2, rfl⟩ := lessL_mem.1 hq
    rcases h with ⟨ha, hb⟩ | ⟨ha, hb⟩
    · exact ⟨p, hp, .inl ⟨(key _ _ h1).1 ha, (key _ _ h2).1 hb⟩⟩
    · exact ⟨p, hp, .inr ⟨(key _ _ h1).1 ha, (key _ _ h2).1 hb⟩⟩
  · rintro ⟨p, hp, ⟨ha, hb⟩ | ⟨ha, hb⟩⟩
    · have h1 : p.1 ≠ i := by rw [ha]; exact upne u
      have h2 : p.2 ≠ i := by rw [hb]; exact upne v
      exact ⟨_, lessL_mem.2 ⟨p, hp, h1, h2, rfl⟩, .inl ⟨(key _ _ h1).2 ha, (key _ _ h2).2 hb⟩⟩
    · have h1 : p.1 ≠ i := by rw [ha]; exact upne v
      have h2 : p.2 ≠ i := by rw [hb]; exact upne u
      exact ⟨_, lessL_mem.2 ⟨p, hp, h1, h2, rfl⟩, .inr ⟨(key _ _ h1).2 ha, (key _ _ h2).2 hb⟩⟩
/-- graph.Without -/
theorem gw_ev {k : Nat} {l : List (Int × Int)} (h1 : 1 ≤ k) (h8 : k ≤ 8) (h24 : l.length ≤ 24) (hin : InL k l) (hne : ∀ p ∈ l, p.1 ≠ p.2) (i : Int) :
    (k ≠ 1 ∧ (0 ≤ i ∧ i ≤ (k : Int) - 1) ∧ graph_Without 300 (k : Int) l i = some (lessL i l, 0)) ∨ ((k = 1 ∨ ¬ (0 ≤ i ∧ i ≤ (k : Int) - 1)) ∧ graph_Without 300 (k : Int) l i = some ([], 1)) := by
  have hg : good (k : Int) l := ⟨wf8 h8, by unfold maxLen; omega⟩
  have hw : wrap64 ((k : Int) - 1) = (k : Int) - 1 := w64 (by omega) (by omega)
  unfold graph_Without
  rw [mCheck_ev hg, errG_ok h1 h8 h24 hin hne, Option.bind_some, if_neg (by decide), hw, core_Within_ev]
  by_cases hk : k = 1
  · rw [if_pos (by rw [beq_iff_eq]; omega), Option.bind_some, if_pos rfl]
    exact .inr ⟨.inl hk, rfl⟩
  · rw [if_neg (by rw [beq_iff_eq]; omega), Option.bind_some]
    by_cases hi : 0 ≤ i ∧ i ≤ (k : Int) - 1
    · obtain ⟨j, rfl⟩ := Int.eq_ofNat_of_zero_le hi.1
      rw [decide_eq_true hi, if_pos rfl, Option.bind_some, if_neg (by decide)]
      have hL := without_L1 (l := l) (i := (j : Int)) (by omega) h24 (fun p hp => by have := hin p hp; omega) 300 0 [] (by omega) (by omega) (by simp)
      rw [show graph_Without_L1 300 l (j : Int) (fun z4 => brambleweir_graph_Without_1 300 (j : Int) z4) 300 0 [] = _ from hL, Option.bind_some, List.drop_zero, List.nil_append]
      exact .inl ⟨hk, hi, rfl⟩
    · rw [decide_eq_false hi, if_neg (by decide), Option.bind_some, if_pos rfl]
      exact .inr ⟨.inr hi, rfl⟩
end Go.Proofs.Ytgnbholhgcbhfaa
