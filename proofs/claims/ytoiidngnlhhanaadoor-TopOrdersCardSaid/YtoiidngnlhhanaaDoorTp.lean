import Derived.Test.YtoiidngnlhhanaaDoorTe
import Derived.Test.YtoiidngnlhhanaaDoorW2
/- what topo.Order comes to -/
set_option linter.all false
set_option maxRecDepth 100000
namespace Go.Proofs.YtoiidngnlhhanaaDoor
open Go.RowKit Go.Shelf Pl To
/-- no later one has a line to an earlier one -/
def TopoP (b : Nat → Nat → Bool) : List Nat → Prop
  | [] => True
  | v :: t => (∀ u ∈ v :: t, b u v = false) ∧ TopoP b t
theorem tfold_bit (f : Nat → Nat) : ∀ (xs : List Nat) (a v : Nat), (xs.foldl (fun a x => a ||| f x) a).testBit v = true ↔ a.testBit v = true ∨ ∃ x ∈ xs, (f x).testBit v = true := fold_or_bit f
section
variable {k : Nat} {l : List (Int × Int)}
theorem topo_L2 (h8 : k ≤ 8) (hin : InL k l) : ∀ (xs : List Nat) (a : Nat), a < 65536 → (∀ x ∈ xs, x < k) → topo_Order_L2 300 (outTo k l) xs a = some (xs.foldl (fun a x => a ||| (outTo k l).getD x 0) a) ∧ xs.foldl (fun a x => a ||| (outTo k l).getD x 0) a < 65536
  | [], a, ha, _ => by rw [topo_Order_L2_n]; exact ⟨rfl, ha⟩
  | x :: xs, a, ha, hx => by
    rw [topo_Order_L2_c, ix_out hin (hx x List.mem_cons_self), Option.bind_some]
    unfold sOr
    rw [if_pos ⟨ha, out_lt hin h8 x⟩, Option.bind_some, List.foldl_cons]
    exact topo_L2 h8 hin xs _ (Nat.or_lt_two_pow (n := 16) ha (out_lt hin h8 x)) (fun y hy => hx y (List.mem_cons_of_mem _ hy))
theorem ndiff2_bit (left v j : Nat) : (ndiff left (2 ^ v)).testBit j = (left.testBit j && !decide (v = j)) := by
  rw [ndiff_testBit, Nat.testBit_two_pow]
theorem topo_L1 (h8 : k ≤ 8) (hin : InL k l) : ∀ (g left : Nat) (os : List Nat), (memb left).length < g → left < 2 ^ k → os.length + (memb left).length ≤ 100 →
    (∃ t : List Nat, topo_Order_L1 300 (outTo k l) g left (rowN os) = some (.inl (0, rowN (os ++ t))) ∧ t.Nodup ∧ (∀ v, v ∈ t ↔ left.testBit v = true) ∧ TopoP (gL l) t) ∨
    (topo_Order_L1 300 (outTo k l) g left (rowN os) = some (.inr ([], 5)) ∧ ∃ S : Nat, S ≠ 0 ∧ S < 2 ^ k ∧ ∀ v, S.testBit v = true → ∃ u, S.testBit u = true ∧ gL l u v = true)
  | 0, left, os, h, _, _ => by omega
  | g+1, left, os, h, hl, ho => by
    have hp := Nat.pow_le_pow_right (n := 2) (by omega) h8
    have hl16 : left < 65536 := by omega
    rw [topo_Order_L1_s]
    by_cases hz : left = 0
    · subst hz
      rw [if_neg (by decide)]
      exact .inl ⟨[], by rw [List.append_nil], .nil, fun v => by rw [Nat.zero_testBit]; simp, trivial⟩
    · have hE : sEach left = some (memb left) := by unfold sEach; rw [if_pos hl16]
      obtain ⟨w1, w2⟩ := topo_L2 (l := l) h8 hin (memb left) 0 (by omega) (fun x hx => bitLt hl ((mem_memb hl16).1 hx))
      have hwb : ∀ v, ((memb left).foldl (fun a x => a ||| (outTo k l).getD x 0) 0).testBit v = true ↔ ∃ u, left.testBit u = true ∧ gL l u v = true := by
        intro v
        rw [fold_or_bit, Nat.zero_testBit]
        constructor
        · rintro (h | ⟨x, hx, h⟩)
          · cases h
          · rw [outTo_bit hin] at h; exact ⟨x, (mem_memb hl16).1 hx, h⟩
        · rintro ⟨u, h1, h2⟩
          exact .inr ⟨u, (mem_memb hl16).2 h1, by rw [outTo_bit hin]; exact h2⟩
      obtain ⟨wt, hwt⟩ : ∃ wt, (memb left).foldl (fun a x => a ||| (outTo k l).getD x 0) 0 = wt := ⟨_, rfl⟩
      rw [hwt] at w1 w2 hwb
      have hN : sNot left wt = some (ndiff left wt) := by unfold sNot; rw [if_pos ⟨hl16, w2⟩]
      have hnl : ndiff left wt < 65536 := Nat.lt_of_le_of_lt (ndiff_le _ _) hl16
      have hL : sList (ndiff left wt) = some (rowN (memb (ndiff left wt))) := by unfold sList; rw [if_pos hnl]; rfl
      rw [if_pos (by rw [bne_iff_ne]; exact hz), hE, Option.bind_some, w1, Option.bind_some, hN, Option.bind_some, hL, Option.bind_some, rowN_len]
      by_cases hf : (memb (ndiff left wt)).length = 0
      · rw [if_pos (by rw [beq_iff_eq]; omega)]
        refine .inr ⟨rfl, left, hz, hl, fun v hv => ?_⟩
        apply Classical.byContradiction
        intro hno
        have : v ∈ memb (ndiff left wt) := (mem_memb hnl).2 (by
          rw [ndiff_testBit, hv, Bool.true_and, Bool.not_eq_true']
          cases e : wt.testBit v
          · rfl
          · exact absurd ((hwb v).1 e) hno)
        rw [List.length_eq_zero_iff.1 hf] at this; cases this
      · rw [if_neg (by rw [beq_iff_eq]; omega)]
        obtain ⟨f, hfd⟩ : ∃ f, (memb (ndiff left wt)).getD 0 0 = f := ⟨_, rfl⟩
        have hfm : f ∈ memb (ndiff left wt) := by
          have : (memb (ndiff left wt)).getD 0 0 = (memb (ndiff left wt))[0]'(by omega) := by simp [List.getD, show 0 < (memb (ndiff left wt)).length by omega]
          rw [← hfd, this]; exact List.getElem_mem _
        have hfb := (mem_memb hnl).1 hfm
        rw [ndiff_testBit, Bool.and_eq_true, Bool.not_eq_true'] at hfb
        have hfk := bitLt hl hfb.1
        have i1 : ix (rowN (memb (ndiff left wt))) 0 = some (f : Int) := by
          have : ix (rowN (memb (ndiff left wt))) 0 = some (((memb (ndiff left wt)).getD 0 0 : Nat) : Int) := ix_map (o := memb (ndiff left wt)) (j := 0) (by omega)
          rw [this, hfd]
        have hW : sWithout left (f : Int) = some (ndiff left (2 ^ f)) := by unfold sWithout; rw [if_pos ⟨hl16, by omega, by omega⟩, Int.toNat_natCast]
        have hless := memb_less ((mem_memb hl16).2 hfb.1)
        have ih := topo_L1 h8 hin g (ndiff left (2 ^ f)) (os ++ [f]) (by omega) (Nat.lt_of_le_of_lt (ndiff_le _ _) hl) (by rw [List.length_append, List.length_singleton]; omega)
        have ha : app (rowN os) (f : Int) = some (rowN (os ++ [f])) := by
          unfold app; rw [if_pos (by rw [rowN_len]; omega)]; unfold rowN; rw [List.map_append]; rfl
        rw [i1, Option.bind_some, ha, Option.bind_some, Option.bind_some, hW, Option.bind_some]
        rcases ih with ⟨t, t1, t2, t3, t4⟩ | ih
        · refine .inl ⟨f :: t, by rw [t1, List.append_assoc]; rfl, List.nodup_cons.2 ⟨fun hm => ?_, t2⟩, fun v => ?_, ⟨fun u hu => ?_, t4⟩⟩
          · have := (t3 f).1 hm
            rw [ndiff2_bit] at this; simp at this
          · rw [List.mem_cons, t3, ndiff2_bit, Bool.and_eq_true, Bool.not_eq_true', decide_eq_false_iff_not]
            constructor
            · rintro (rfl | ⟨h, _⟩)
              · exact hfb.1
              · exact h
            · intro h
              by_cases e : v = f
              · exact .inl e
              · exact .inr ⟨h, fun q => e q.symm⟩
          · cases e : gL l u f
            · rfl
            · have hul : left.testBit u = true := by
                rcases List.mem_cons.1 hu with rfl | hu
                · exact hfb.1
                · have := (t3 u).1 hu
                  rw [ndiff2_bit, Bool.and_eq_true] at this; exact this.1
              have := (hwb f).2 ⟨u, hul, e⟩
              rw [hfb.2] at this; cases this
        · exact .inr ih
theorem topo_ev (h1 : 1 ≤ k) (h8 : k ≤ 8) (hin : InL k l) (hg : good (k : Int) l) (he : errG (k : Int) l = 0) :
    (∃ t : List Nat, topo_Order 300 (k : Int) l = some (rowN t, 0) ∧ t.Nodup ∧ (∀ v, v ∈ t ↔ v < k) ∧ TopoP (gL l) t) ∨
    (topo_Order 300 (k : Int) l = some ([], 5) ∧ ∃ S : Nat, S ≠ 0 ∧ S < 2 ^ k ∧ ∀ v, S.testBit v = true → ∃ u, S.testBit u = true ∧ gL l u v = true) := by
  have hp := Nat.pow_le_pow_right (n := 2) (by omega) h8
  have hpos := Nat.two_pow_pos k
  have hbel : sBelow (k : Int) = some (2 ^ k - 1) := by unfold sBelow; rw [if_pos (by omega), Int.toNat_natCast]
  have hm16 := memb_len16 (2 ^ k - 1)
  unfold topo_Order
  rw [mCheck_ev hg, Option.bind_some, if_neg (by simp [he]), mOut_ev hg he, Option.bind_some, hbel, Option.bind_some]
  rcases topo_L1 (l := l) h8 hin 300 (2 ^ k - 1) [] (by omega) (by omega) (by simp; omega) with ⟨t, t1, t2, t3, t4⟩ | ⟨q1, q2⟩
  · rw [show topo_Order_L1 300 (outTo k l) 300 (2 ^ k - 1) [] = _ from t1]
    exact .inl ⟨t, by rw [List.nil_append]; rfl, t2, fun v => by rw [t3, Nat.testBit_two_pow_sub_one, decide_eq_true_eq], t4⟩
  · rw [show topo_Order_L1 300 (outTo k l) 300 (2 ^ k - 1) [] = _ from q1]
    exact .inr ⟨rfl, q2⟩
theorem topo_bad {n : Int} {l : List (Int × Int)} (hg : good n l) (he : errG n l ≠ 0) : topo_Order 300 n l = some ([], errG n l) := by
  unfold topo_Order
  rw [mCheck_ev hg, Option.bind_some, if_pos (by rw [bne_iff_ne]; exact he)]
end
end Go.Proofs.YtoiidngnlhhanaaDoor
