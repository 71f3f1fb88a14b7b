import Derived.Test.YtecllcpjjllogaaDoorBFe
import Derived.Test.YtecllcpjjllogaaDoorOg
import Derived.Test.YtecllcpjjllogaaDoorPhI
import Derived.Test.YtecllcpjjllogaaDoorFrom
import Derived.Test.YtecllcpjjllogaaDoorTrEv
/- TopBook: plain -/
set_option linter.all false
set_option maxRecDepth 100000
namespace Go.Proofs.YtecllcpjjllogaaDoor
open Go.RowKit Go.Shelf Pl
def LT_put_L1 (F : Nat) (v0 : List (List Int)) : Nat → (BkT) → (Int) → Option (BkT × Int)
  | 0, _, _ => none
  | g+1, v2, v3 => (if v3 < ((v0).length : Int) then if v3 < 60 then some true else some false else some false).bind fun b2 => if b2 = true then (ix v0 v3).bind fun y3 => (if (((y3).length : Int) != 3) = true then LT_put_L1 F v0 g (v2) ((wrap64 (v3 + 1))) else ((ix y3 0).bind fun y4 => if (y4 == 0) = true then (ix y3 1).bind fun y5 => (ix y3 2).bind fun y6 => (mJoin (v2) (y5) (y6)).bind fun y7 => LT_put_L1 F v0 g (y7.2) ((wrap64 (v3 + 1))) else (ix y3 1).bind fun y8 => (ix y3 2).bind fun y9 => (mCut (v2) (y8) (y9)).bind fun y10 => LT_put_L1 F v0 g (y10.2) ((wrap64 (v3 + 1))))) else some (v2, v3)
theorem LT_put_L1_0 (F : Nat) (v0 : List (List Int)) (v2 : BkT) (v3 : Int) : LT_put_L1 F v0 0 v2 v3 = none := by rw [LT_put_L1]
theorem LT_put_L1_s (F g : Nat) (v0 : List (List Int)) (v2 : BkT) (v3 : Int) : LT_put_L1 F v0 (g+1) v2 v3 = ((if v3 < ((v0).length : Int) then if v3 < 60 then some true else some false else some false).bind fun b2 => if b2 = true then (ix v0 v3).bind fun y3 => (if (((y3).length : Int) != 3) = true then LT_put_L1 F v0 g (v2) ((wrap64 (v3 + 1))) else ((ix y3 0).bind fun y4 => if (y4 == 0) = true then (ix y3 1).bind fun y5 => (ix y3 2).bind fun y6 => (mJoin (v2) (y5) (y6)).bind fun y7 => LT_put_L1 F v0 g (y7.2) ((wrap64 (v3 + 1))) else (ix y3 1).bind fun y8 => (ix y3 2).bind fun y9 => (mCut (v2) (y8) (y9)).bind fun y10 => LT_put_L1 F v0 g (y10.2) ((wrap64 (v3 + 1))))) else some (v2, v3)) := by rw [LT_put_L1]
theorem putT_L1 {steps : List (List Int)} : ∀ (g j : Nat) (b : BkT), BInv b → 60 < j + g → j ≤ 60 → ∃ x, LT_put_L1 300 steps g b (j : Int) = some ((goH ((steps.take 60).drop j) b).2, x)
  | 0, j, b, hI, h, hj => by omega
  | g+1, j, b, hI, h, hj => by
    rw [LT_put_L1_s]
    by_cases c1 : j < steps.length
    · by_cases c2 : j < 60
      · have hlt : j < (steps.take 60).length := by rw [List.length_take]; omega
        have hd := List.drop_eq_getElem_cons hlt
        have h1 : ix steps (j : Int) = some ((steps.take 60)[j]) := by rw [ix_nat c1, List.getElem_take]
        rw [if_pos (by omega), if_pos (by omega), Option.bind_some, if_pos rfl, h1, Option.bind_some, w64n (by omega), hd]
        generalize (steps.take 60)[j] = l
        by_cases c3 : l.length = 3
        · have q0 : ix l 0 = some (l.getD 0 0) := ix_at (i := 0) 0 (by omega)
          have q1 : ix l 1 = some (l.getD 1 0) := ix_at (i := 1) 0 (by omega)
          have q2 : ix l 2 = some (l.getD 2 0) := ix_at (i := 2) 0 (by omega)
          rw [if_neg (by rw [bne_iff_ne]; omega), q0, Option.bind_some, q1, Option.bind_some, q2, Option.bind_some, Option.bind_some, Option.bind_some]
          obtain ⟨e, b', o1, o2, o3, _⟩ := opI_ev hI l
          have key : ∃ x, LT_put_L1 300 steps g b' ((j + 1 : Nat) : Int) = some ((goH (l :: (steps.take 60).drop (j + 1)) b).2, x) := by
            obtain ⟨x, hx⟩ := putT_L1 (steps := steps) g (j+1) b' o2 (by omega) (by omega)
            refine ⟨x, ?_⟩
            rw [hx]
            by_cases c : e = 0
            · subst c; rw [goH_ok c3 o1]
            · rw [goH_no c3 o1 c, o3 c]
          unfold opI at o1
          split
          · rename_i hz
            have hz : l.getD 0 0 = 0 := eq_of_beq hz
            rw [if_pos hz] at o1
            rw [o1, Option.bind_some]; exact key
          · rename_i hz
            have hz : ¬ l.getD 0 0 = 0 := fun q => hz (by rw [q]; rfl)
            rw [if_neg hz] at o1
            rw [o1, Option.bind_some]; exact key
        · rw [if_pos (by rw [bne_iff_ne]; omega), goH_skip c3]
          exact putT_L1 g (j+1) b hI (by omega) (by omega)
      · have : (steps.take 60).drop j = [] := by rw [List.drop_eq_nil_iff, List.length_take]; omega
        rw [if_pos (by omega), if_neg (by omega), Option.bind_some, if_neg (by decide), this]; exact ⟨_, rfl⟩
    · have : (steps.take 60).drop j = [] := by rw [List.drop_eq_nil_iff, List.length_take]; omega
      rw [if_neg (by omega), Option.bind_some, if_neg (by decide), this]; exact ⟨_, rfl⟩
theorem putT_ev (steps : List (List Int)) : ∃ x, LT_put_L1 300 steps 300 newB 0 = some ((goH (steps.take 60) newB).2, x) := by
  obtain ⟨x, h1⟩ := putT_L1 (steps := steps) 300 0 newB new_inv (by omega) (by omega)
  exact ⟨x, by rw [show LT_put_L1 300 steps 300 newB 0 = _ from h1, List.drop_zero]⟩
theorem join21 : mJoin newB 2 1 = some (0, joinB newB 2 1) := by
  unfold mJoin
  rw [if_pos new_inv.ok, if_pos (show bkE 2 1 = 0 from bkE_of (x := 2) (y := 1) (by omega) (by omega) (by omega)), if_neg (by decide), if_neg (by decide)]
theorem join21_text : (joinB newB 2 1).2.1.toList.isEmpty = false := by
  have hs : 0 < (joinB newB 2 1).2.1.size := by
    show 0 < (newB.2.1 ++ lineW (dnW (⟨#[106]⟩ : ByteArray) [2, 1])).size
    unfold lineW
    rw [ByteArray.size_append, ByteArray.size_append]
    have : (⟨#[10]⟩ : ByteArray).size = 1 := rfl
    omega
  generalize (joinB newB 2 1).2.1 = t at *
  have : t.data.toList.length = t.size := bytes_len t
  cases e : t.toList with
  | nil => rw [Lib.toList_data] at e; rw [e] at this; simp at this; omega
  | cons _ _ => rfl
theorem mem_lines {b : BkT} (h : BInv b) (p : Int × Int) : p ∈ linesOf b.1 ↔ ∃ i j : Nat, i < 8 ∧ i ≤ j ∧ p = ((i : Int), (j : Int)) ∧ (mk b i).testBit j = true := by
  unfold linesOf rowB
  rw [List.mem_flatMap]
  have hu : ∀ i, i < 8 → upM (b.1.getD i 0) i < 65536 := fun i hi => by
    have := h.lt i hi
    have := ndiff_le (b.1.getD i 0) (2 ^ i - 1)
    unfold upM
    show _ < _
    have h2 : b.1.getD i 0 < 256 := h.lt i hi
    omega
  constructor
  · rintro ⟨i, hi, hp⟩
    rw [List.mem_range] at hi
    rw [List.mem_map] at hp
    obtain ⟨j, hj, rfl⟩ := hp
    rw [mem_memb (hu i hi), upM_bit, Bool.and_eq_true, decide_eq_true_eq] at hj
    exact ⟨i, j, hi, hj.2, rfl, hj.1⟩
  · rintro ⟨i, j, hi, hij, rfl, hb⟩
    refine ⟨i, List.mem_range.2 hi, List.mem_map.2 ⟨j, ?_, rfl⟩⟩
    rw [mem_memb (hu i hi), upM_bit, Bool.and_eq_true, decide_eq_true_eq]
    exact ⟨hb, hij⟩
theorem linesOf_in {b : BkT} (h : BInv b) : InL 8 (linesOf b.1) ∧ ∀ p ∈ linesOf b.1, p.1 ≠ p.2 := by
  refine ⟨fun p hp => ?_, fun p hp => ?_⟩
  · obtain ⟨i, j, hi, hij, rfl, hb⟩ := (mem_lines h p).1 hp
    have hj : j < 8 := by
      rcases Nat.lt_or_ge j 8 with q | q
      · exact q
      · rw [bit256 (h.lt i hi) q] at hb; cases hb
    show (0 : Int) ≤ (i : Int) ∧ (i : Int) < ((8 : Nat) : Int) ∧ (0 : Int) ≤ (j : Int) ∧ (j : Int) < ((8 : Nat) : Int)
    omega
  · obtain ⟨i, j, hi, hij, rfl, hb⟩ := (mem_lines h p).1 hp
    show (i : Int) ≠ (j : Int)
    intro e
    have e : i = j := by omega
    subst e
    rw [h.irr i hi] at hb; cases hb
theorem ad_lines {b : BkT} (h : BInv b) {i j : Nat} (hi : i < 8) : Ad 8 (linesOf b.1) i j ↔ (mk b i).testBit j = true := by
  rw [ad_iff (linesOf_in h).1]
  have h8 : ∀ a c : Nat, a < 8 → (mk b a).testBit c = true → c < 8 := fun a c ha hb => by
    rcases Nat.lt_or_ge c 8 with q | q
    · exact q
    · rw [bit256 (h.lt a ha) q] at hb; cases hb
  constructor
  · rintro ⟨p, hp, hh⟩
    obtain ⟨x, y, hx, hxy, rfl, hb⟩ := (mem_lines h p).1 hp
    have hy := h8 x y hx hb
    rcases hh with ⟨e1, e2⟩ | ⟨e1, e2⟩
    · have e1 : (x : Int) = i := e1
      have e2 : (y : Int) = j := e2
      have e1 : x = i := by omega
      have e2 : y = j := by omega
      subst e1 e2; exact hb
    · have e1 : (x : Int) = j := e1
      have e2 : (y : Int) = i := e2
      have e1 : x = j := by omega
      have e2 : y = i := by omega
      subst e1 e2; rw [h.sym y x hy hx]; exact hb
  · intro hb
    have hj := h8 i j hi hb
    rcases Nat.le_total i j with q | q
    · exact ⟨((i : Int), (j : Int)), (mem_lines h _).2 ⟨i, j, hi, q, rfl, hb⟩, .inl ⟨rfl, rfl⟩⟩
    · exact ⟨((j : Int), (i : Int)), (mem_lines h _).2 ⟨j, i, hj, q, rfl, by rw [h.sym j i hj hi]; exact hb⟩, .inr ⟨rfl, rfl⟩⟩
theorem farT1 {b : BkT} (h : BInv b) {j : Nat} (hj : j < 8) : ∀ (g : Nat) (S : Nat) (kk : Nat), 9 < (memb S).length + g → S < 256 → kk + g ≤ 400 → ∃ r : Int, brambleweir_book_Book_Far_L1 300 b.1 (j : Int) g S (kk : Int) = some (.inr (r, 0)) ∧ r ≤ 400
  | 0, S, kk, hg, hS, _ => by
    exfalso
    have : (memb S).length ≤ 8 := by
      show ((List.range 16).filter fun i => S.testBit i).length ≤ 8
      rw [show List.range 16 = List.range' 0 8 ++ List.range' 8 8 by decide, List.filter_append]
      have z2 : (List.range' 8 8).filter (fun j => S.testBit j) = [] := by
        rw [List.filter_eq_nil_iff]
        intro j hj
        rw [List.mem_range'_1] at hj
        rw [bit256 hS (by omega)]; simp
      rw [z2, List.append_nil]
      have := List.length_filter_le (fun j => S.testBit j) (List.range' 0 8)
      rw [List.length_range'] at this; exact this
    omega
  | g+1, S, kk, hg, hS, hk => by
    have hh : sHas S (j : Int) = some (S.testBit j) := by unfold sHas; rw [if_pos (by omega), Int.toNat_natCast]
    rw [brambleweir_book_Book_Far_L1_s, hh, Option.bind_some]
    have hml : (memb S).length ≤ 16 := by unfold memb; have := List.length_filter_le (fun i => S.testBit i) (List.range 16); rwa [List.length_range] at this
    by_cases c : S.testBit j = true
    · rw [if_pos c]; exact ⟨(kk : Int), rfl, by omega⟩
    · have he : sEach S = some (memb S) := by unfold sEach; rw [if_pos (by omega)]
      have hx : ∀ p ∈ memb S, p < 8 := fun p hp => by
        have := (mem_memb (by omega)).1 hp
        rcases Nat.lt_or_ge p 8 with q | q
        · exact q
        · rw [bit256 hS q] at this; cases this
      obtain ⟨R, r1, r2, r3⟩ := bf_L2 h 300 (memb S) S hx hS
      rw [if_neg c, he, Option.bind_some, r1, Option.bind_some]
      by_cases e : R = S
      · subst e
        rw [if_pos (by rw [beq_iff_eq])]
        exact ⟨-1, rfl, by omega⟩
      · rw [if_neg (by rw [beq_iff_eq]; exact e), w64n (by omega)]
        have hgrow : (memb S).length + 1 ≤ (memb R).length := by
          have : ∃ q, R.testBit q = true ∧ S.testBit q = false := by
            apply Classical.byContradiction
            intro hn
            refine e (Nat.eq_of_testBit_eq fun q => ?_)
            rw [Bool.eq_iff_iff]
            constructor
            · intro hq
              cases e3 : S.testBit q
              · exact absurd ⟨q, hq, e3⟩ hn
              · rfl
            · intro hq; exact (r3 q).2 (.inl hq)
          obtain ⟨q, q1, q2⟩ := this
          exact memb_grow (by omega) (fun x hx => (r3 x).2 (.inl hx)) q2 q1
        exact farT1 h hj g R (kk + 1) (by omega) r2 (by omega)
/-- how far, by the book and by its lines -/
theorem far_from {b : BkT} (h : BInv b) (i j : Int) : ∃ r, brambleweir_book_Book_Far 300 b.1 i j = some r ∧ (r.2 ≠ 0 → r.1 = 0) ∧
    (r.2 = 0 → ¬ 24 < (linesOf b.1).length → (0 ≤ j ∧ j ≤ 7) ∧ ∃ d, walk_From 300 8 (linesOf b.1) i = some (d, 0) ∧ d.length = 8 ∧ d.getD j.toNat 0 = r.1) := by
  unfold brambleweir_book_Book_Far
  rw [core_All_ev _ _ (by simp) (by simp), Option.bind_some]
  by_cases c : (0 ≤ i ∧ i ≤ 7) ∧ (0 ≤ j ∧ j ≤ 7)
  · have hA : allIn [i, j] 0 7 = true := by simp [allIn]; omega
    rw [if_pos hA]
    obtain ⟨i', rfl⟩ := Int.eq_ofNat_of_zero_le c.1.1
    obtain ⟨j', rfl⟩ := Int.eq_ofNat_of_zero_le c.2.1
    have hi : i' < 8 := by omega
    have hj : j' < 8 := by omega
    have hw : sWith 0 (i' : Int) = some (2 ^ i') := by unfold sWith; rw [if_pos (by omega), Int.toNat_natCast, Nat.zero_or]
    have hp : 2 ^ i' ≤ 2 ^ 7 := Nat.pow_le_pow_right (by omega) (by omega)
    have hm1 : (memb (2 ^ i')).length = 1 := by
      have : ∀ k, k < 8 → (memb (2 ^ k)).length = 1 := by decide +kernel
      exact this i' hi
    have main : ∀ o : List Int, Far 8 (fun a c => (mk b a).testBit c = true) i' o → brambleweir_book_Book_Far_L1 300 b.1 (j' : Int) 300 (2 ^ i') 0 = some (.inr (o.getD j' 0, 0)) := fun o hf2 =>
      bf_L1 h hi hj hf2 300 (2 ^ i') 0 (by omega) (by omega) (fun q hq => by
        rw [Nat.testBit_two_pow, decide_eq_true_eq]
        constructor
        · intro e; subst e; have := hf2.start; omega
        · rintro ⟨q1, q2⟩
          rcases hf2.down q hq q1 with e2 | ⟨p, p1, p2, p3, p4⟩
          · exact e2.symm
          · omega) (by omega) (by omega)
    rw [hw, Option.bind_some]
    by_cases c2 : 24 < (linesOf b.1).length
    · obtain ⟨r, h1, h2⟩ := farT1 h (j := j') hj 300 (2 ^ i') 0 (by omega) (by omega) (by omega)
      rw [show brambleweir_book_Book_Far_L1 300 b.1 (j' : Int) 300 (2 ^ i') 0 = _ from h1, Option.bind_some]
      exact ⟨_, rfl, fun q => absurd rfl q, fun _ q => absurd c2 q⟩
    · have hin := linesOf_in h
      have hg : good ((8 : Nat) : Int) (linesOf b.1) := ⟨by decide, by unfold maxLen; omega⟩
      have he : errG ((8 : Nat) : Int) (linesOf b.1) = 0 := errG_ok (by omega) (by omega) (by omega) hin.1 hin.2
      obtain ⟨o, o1, o2⟩ := from_ev hg he hi
      have hf2 : Far 8 (fun a c => (mk b a).testBit c = true) i' o :=
        ⟨o2.len, o2.low, o2.start, fun a c ha h0 hb => o2.step a c ha h0 ((ad_lines h ha).2 hb), fun q hq h0 => (o2.down q hq h0).imp id fun ⟨p, p1, p2, p3⟩ => ⟨p, p1, (ad_lines h p1).1 p2, p3⟩⟩
      rw [main o hf2, Option.bind_some]
      exact ⟨_, rfl, fun q => absurd rfl q, fun _ _ => ⟨by omega, o, o1, o2.len, by rw [Int.toNat_natCast]⟩⟩
  · have hA : allIn [i, j] 0 7 = false := by
      cases e : allIn [i, j] 0 7
      · rfl
      · exfalso; simp [allIn] at e; omega
    rw [if_neg (by rw [hA]; decide)]
    exact ⟨(0, 1), rfl, fun _ => rfl, fun q => by cases q⟩
end Go.Proofs.YtecllcpjjllogaaDoor
