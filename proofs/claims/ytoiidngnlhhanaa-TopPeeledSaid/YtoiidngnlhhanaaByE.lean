import Derived.Test.YtoiidngnlhhanaaGy
/- plain: what color.By gives -/
set_option linter.all false
set_option maxRecDepth 100000
namespace Go.Proofs.Ytoiidngnlhhanaa
open Go.RowKit Go.Shelf Pl
theorem Gr.start {a : Nat → Nat → Bool} {os : List Nat} {k : Nat} : Gr a os k 0 (List.replicate k (-1)) :=
  ⟨List.length_replicate, fun v hv _ => by simp [List.getD, hv], fun s hs => by omega⟩
theorem by_ev {k : Nat} {l : List (Int × Int)} (h1 : 1 ≤ k) (h8 : k ≤ 8) (h24 : l.length ≤ 24) (hin : InL k l) (hne : ∀ p ∈ l, p.1 ≠ p.2) (os : List Int) :
    (∃ os' : List Nat, os = rowN os' ∧ os'.length = k ∧ (∀ x ∈ os', x < k) ∧ os'.Nodup ∧ ∃ out, color_By 300 (k : Int) l os = some (out, 0) ∧ Gr (aL l) os' k k out) ∨
    ∃ e : Int, e ≠ 0 ∧ color_By 300 (k : Int) l os = some ([], e) ∧ ((os.length ≠ k ∧ e = 3) ∨ (os.length = k ∧ allIn os 0 ((k : Int) - 1) = false ∧ e = 1) ∨ (os.length = k ∧ allIn os 0 ((k : Int) - 1) = true ∧ ¬ os.Nodup ∧ e = 6)) := by
  have hg : good (k : Int) l := ⟨wf8 h8, by unfold maxLen; omega⟩
  have he := errG_ok h1 h8 h24 hin hne
  unfold color_By
  rw [mCheck_ev hg, he, Option.bind_some, if_neg (by decide), w64 (x := (k : Int) - 1) (by omega) (by omega)]
  by_cases hl : os.length = k
  · rw [if_neg (by rw [bne_iff_ne]; omega), core_All_ev _ _ (by omega) (by omega), Option.bind_some]
    cases ha : allIn os 0 ((k : Int) - 1)
    · rw [if_neg (by decide)]
      exact .inr ⟨1, by decide, rfl, .inr (.inl ⟨hl, rfl, rfl⟩)⟩
    · rw [if_pos rfl]
      obtain ⟨os', rfl, hok⟩ := rowN_of ha
      have hol : os'.length = k := by rw [← hl]; unfold rowN; rw [List.length_map]
      rcases by_L1 (os := rowN os') (by omega) 300 0 (by omega) (by omega) (by simp) with ⟨q1, q2⟩ | ⟨q1, q2⟩
      · have hn := rowN_nodup q2
        refine .inl ⟨os', rfl, hol, hok, hn, ?_⟩
        have hr := besM_row hin
        have hp := Nat.pow_le_pow_right (n := 2) (by omega) h8
        obtain ⟨out, o1, o2⟩ := by_L2 (a := aL l) (bes := besM k l) h8 hr.1 (fun v => getD_lt (fun m hm => by have := hr.2 m hm; omega) v) (fun v u => adj_besL hin v u) (fun v u h => (aL_lt hin h).2) hol hok hn (aL_irr hne) 300 0 _ (by omega) (by omega) Gr.start
        refine ⟨out, ?_, o2⟩
        rw [show color_By_L1 300 (rowN os') 300 0 = _ from q1, Option.bind_some]
        dsimp only
        have hrep : slRep [-1] (k : Int) = some (List.replicate k (-1)) := by
          show (if 1 ≤ (k : Int) ∧ (k : Int) ≤ 8 then some (List.replicate (k : Int).toNat (-1)) else none) = _
          rw [if_pos ⟨by omega, by omega⟩, Int.toNat_natCast]
        rw [mBeside_ev hg he, Option.bind_some, hrep, Option.bind_some]
        rw [show color_By_L2 300 (rowN os') (besM k l) 300 0 (List.replicate k (-1)) = _ from o1]; rfl
      · rw [show color_By_L1 300 (rowN os') 300 0 = _ from q1, Option.bind_some]
        exact .inr ⟨6, by decide, rfl, .inr (.inr ⟨hl, rfl, q2, rfl⟩)⟩
  · rw [if_pos (by rw [bne_iff_ne]; omega)]
    exact .inr ⟨3, by decide, rfl, .inl ⟨hl, rfl⟩⟩
/-! ### what the colours tell -/
def deg (a : Nat → Nat → Bool) (k v : Nat) : Nat := ((List.range k).filter (a v)).length
structure Painted (a : Nat → Nat → Bool) (k : Nat) (out : List Int) : Prop where
  len : out.length = k
  col : ∀ v, v < k → ∃ c : Nat, out.getD v (-1) = (c : Int) ∧ c < k ∧ c ≤ deg a k v
  ne : ∀ u v, u < k → v < k → u ≠ v → a u v = true → out.getD u (-1) ≠ out.getD v (-1)
theorem painted {a : Nat → Nat → Bool} {os : List Nat} {k : Nat} {out : List Int} (hs : ∀ i j, a i j = a j i) (hk : ∀ u v, a u v = true → v < k) (hol : os.length = k) (hok : ∀ x ∈ os, x < k) (hn : os.Nodup) (G : Gr a os k k out) : Painted a k out := by
  refine ⟨G.len, fun v hv => ?_, fun u v hu hv huv h => ?_⟩
  · obtain ⟨s, s1, s2⟩ := pos_of hol hok hn hv
    obtain ⟨c, c1, c2, c3, c4⟩ := G.co s s1
    rw [s2] at c1 c3
    refine ⟨c, c1, by omega, ?_⟩
    have := nodup_len_le (l := List.range c) (l' := ((List.range k).filter (a v)).map fun x => (out.getD x (-1)).toNat) List.nodup_range (fun d hd => by
      obtain ⟨r, r1, r2, r3⟩ := c3 d (List.mem_range.1 hd)
      exact List.mem_map.2 ⟨_, List.mem_filter.2 ⟨List.mem_range.2 (hk _ _ r2), r2⟩, by rw [r3]; rfl⟩)
    rw [List.length_range, List.length_map] at this
    exact this
  · obtain ⟨s, s1, s2⟩ := pos_of hol hok hn hu
    obtain ⟨t, t1, t2⟩ := pos_of hol hok hn hv
    have hst : s ≠ t := fun e => huv (by rw [← s2, ← t2, e])
    rcases Nat.lt_or_gt_of_ne hst with q | q
    · obtain ⟨c, c1, _, _, c4⟩ := G.co t t1
      have := c4 s q (by rw [s2, t2, hs]; exact h)
      rw [t2] at c1; rw [s2] at this; rw [c1]; exact this
    · obtain ⟨c, c1, _, _, c4⟩ := G.co s s1
      have := c4 t q (by rw [s2, t2]; exact h)
      rw [s2] at c1; rw [t2] at this; rw [c1]; exact fun e => this e.symm
end Go.Proofs.Ytoiidngnlhhanaa
