import Derived.Test.YthmfgnpkbcbkcaaDoorQT
/- a region that draws its order, by a schedule: what asks no world first (P), a block that is quiet (H), what alone is ready (S) -/
set_option linter.all false
set_option maxRecDepth 100000
namespace Go.Proofs.YthmfgnpkbcbkcaaDoor
open Go.RowKit Go.Sort
section
variable {P : Program} {ops : Array Oper} {md : Region.Mode} {C : World → Prop} {R : Act → World → Prop}
/-- no way out but the end -/
def QN (R : Act → World → Prop) : Exit → Act → World → Prop
  | .normal, a, w => R a w
  | _, _, _ => False
theorem QN_out (h : LetsOut (QN R)) : False := by obtain ⟨a, w, h⟩ := h; exact h
/-- whatever the world, the operation yields the value -/
def PureIn (P : Program) (ops : Array Oper) (o : Oper) (v : Value) (a : Act) : Prop := Region.wanted o (yielded ops a.tmps) = true ∧ ∀ W, (execOp a.eval o).run P W = .ok (.value v) W
theorem wpOp_put {i j : Nat} {oi oj : Oper} {v : Value} (hj : ops[j]? = some oj) (hap : oi.apart ops oj = true)
    (hsi : ∀ cs b, oi.op ≠ .select cs b) (hsj : ∀ cs b, oj.op ≠ .select cs b) {K : Act → World → Prop} {a : Act} {w : World}
    (hy : PureIn P ops oi v a) (h : wpOp P ops (QN R) j K (a.put oi.dst v) w) :
    wpOp P ops (QN R) j (fun a' w' => PureIn P ops oi v a' ∧ K (a'.put oi.dst v) w') a w := by
  obtain ⟨h1, h2, h3⟩ := Oper.apart_spec hap
  have keep : ∀ (a : Act), PureIn P ops oi v a → ∀ u, PureIn P ops oi v (a.put oj.dst u) := fun a hy u =>
    ⟨(wanted_put oi a oj.dst u h3).trans hy.1, fun W => by rw [execOp_put oi hsi a oj.dst u h3]; exact hy.2 W⟩
  unfold wpOp at *
  simp only [hj] at *
  rw [wanted_put oj a oi.dst v h1] at h
  split
  · rename_i hw
    simp only [hw, if_true] at h
    rcases h with h | h
    · left
      unfold Oper.wp at *
      rw [execOp_put oj hsj a oi.dst v h1] at h
      generalize (execOp a.eval oj).run P w = r at *
      cases r with
      | ok x w' =>
        cases x <;> simp only [Oper.upon] at h ⊢
        case value u => exact ⟨keep a hy u, by rw [← Act.put_comm a v u h2]; exact h⟩
        case skip => exact ⟨keep a hy _, by rw [← Act.put_comm a v undef h2]; exact h⟩
        case defer d =>
          refine ⟨?_, ?_⟩
          · have := keep a hy undef
            cases hd : oj.dst <;> simp only [hd, Act.put] at this ⊢ <;> exact this
          · have h5 : Act.put ({ Act.put a oi.dst v with defers := d :: (Act.put a oi.dst v).defers } : Act) oj.dst undef = Act.put (Act.put ({ a with defers := d :: a.defers } : Act) oj.dst undef) oi.dst v := by
              have := Act.put_comm ({ a with defers := d :: a.defers } : Act) v undef h2
              rw [← this]
              cases hi : oi.dst <;> rfl
            rw [← h5]; exact h
        case enter f args =>
          refine h.mono fun e w'' he => ?_
          cases e with
          | returned u => exact ⟨keep a hy u, by rw [← Act.put_comm a v u h2]; exact he⟩
          | panicked c => exact he
          | outgrown => exact absurd he QN_out
        case row row args => exact h.mono fun u w'' he => ⟨keep a hy u, by rw [← Act.put_comm a v u h2]; exact he⟩
      | halt x w' => cases x <;> simp only [Oper.upon] at h ⊢ <;> exact h
    · exact absurd h.2 QN_out
  · rename_i hw
    simp only [hw] at h
    exact ⟨keep a hy _, by rw [← Act.put_comm a v undef h2]; exact h⟩
theorem wpAny_pure {i : Nat} {oi : Oper} {v : Value} (hi : ops[i]? = some oi) (hsel : ∀ (j : Nat) (o : Oper) cs b, ops[j]? = some o → o.op ≠ .select cs b) :
    ∀ (fuel : Nat) (listed : Array Bool) (a : Act) (w : World),
      (∀ j oj, ops[j]? = some oj → j ≠ i → listed.getD j true = false → (∀ e ∈ oj.after, Region.binds md e = true → e.on ≠ i) → oi.apart ops oj = true) →
      i ∈ Region.ready md ops listed → PureIn P ops oi v a →
      wpAny P md ops (QN R) fuel (listed.setIfInBounds i true) (a.put oi.dst v) w → wpAny P md ops (QN R) (fuel + 1) listed a w := by
  have self : ∀ {K : Act → World → Prop} {a : Act} {w : World}, PureIn P ops oi v a → K (a.put oi.dst v) w → wpOp P ops (QN R) i K a w := by
    intro K a w hy h
    unfold wpOp
    simp only [hi, hy.1, if_true]
    left
    unfold Oper.wp
    rw [hy.2 w]; exact h
  intro fuel
  induction fuel with
  | zero =>
    intro listed a w _ hr hy H
    refine ⟨fun h => (by rw [h] at hr; cases hr), fun j hj => ?_⟩
    by_cases hji : j = i
    · subst hji; exact self hy H
    · have := ready_mono hj hji
      rw [H.1] at this
      cases this
  | succ fuel ih =>
    intro listed a w hfree hr hy H
    refine ⟨fun h => (by rw [h] at hr; cases hr), fun j hj => ?_⟩
    by_cases hji : j = i
    · subst hji; exact self hy H
    · have h1 := H.2 j (ready_mono hj hji)
      obtain ⟨hjun, oj, hoj, hall⟩ := mem_ready.1 hj
      have hun := (mem_ready.1 hr).1
      have hnot : ∀ e ∈ oj.after, Region.binds md e = true → e.on ≠ i := fun e he hb heq => by
        have h1 := hall e he hb
        rw [heq, getD_both hun] at h1
        cases h1
      have h2 := wpOp_put (i := i) hoj (hfree j oj hoj hji hjun hnot) (fun cs b => hsel i oi cs b hi) (fun cs b => hsel j oj cs b hoj) hy h1
      have hfree' : ∀ k ok, ops[k]? = some ok → k ≠ i → (listed.setIfInBounds j true).getD k true = false →
          (∀ e ∈ ok.after, Region.binds md e = true → e.on ≠ i) → oi.apart ops ok = true := fun k ok hk hki hun hno => by
        refine hfree k ok hk hki ?_ hno
        by_cases hjk : j = k
        · subst hjk; exact hjun
        · rw [getD_set_ne true hjk] at hun; exact hun
      refine wpOp_mono (fun a' w' h3 => ih (listed.setIfInBounds j true) a' w' hfree' (ready_mono hr (Ne.symm hji)) h3.1 ?_) h2
      rw [Array.setIfInBounds_comm _ _ hji]
      exact h3.2
/-! ### the schedule -/
def lst (listed : Array Bool) : List Nat → Array Bool
  | [] => listed
  | i :: is => lst (listed.setIfInBounds i true) is
/-- each is ready, and apart from what does not wait for it -/
def lexI (md : Region.Mode) (ops : Array Oper) : List Nat → Array Bool → Bool
  | [], _ => true
  | i :: is, listed => (Region.ready md ops listed).contains i && Region.free md ops listed i && lexI md ops is (listed.setIfInBounds i true)
/-- the operations by their numbers -/
def opsI (ops : Array Oper) (is : List Nat) : List Oper := is.filterMap fun i => ops[i]?
/-- the walk of what asks no world -/
def wpPure (P : Program) (ops : Array Oper) (Q : Act → Prop) : List Nat → Act → Prop
  | [], a => Q a
  | i :: is, a => ∃ o, ops[i]? = some o ∧ o.guard = none ∧ ∃ v, (∀ W, (execOp a.eval o).run P W = .ok (.value v) W) ∧ wpPure P ops Q is (a.put o.dst v)
theorem wpAny_pures (hs : Region.noSelect ops = true) {g : Nat} {w : World} {Q : Act → Prop} : ∀ (is : List Nat) (listed : Array Bool) (a : Act), lexI md ops is listed = true → wpPure P ops Q is a →
    (∀ a', Q a' → wpAny P md ops (QN R) g (lst listed is) a' w) → wpAny P md ops (QN R) (is.length + g) listed a w
  | [], listed, a, _, h, hk => by rw [List.length_nil, Nat.zero_add]; exact hk a h
  | i :: is, listed, a, hB, ⟨o, ho, hg, v, hv, h⟩, hk => by
    simp only [lexI, Bool.and_eq_true] at hB
    obtain ⟨⟨hr, hf⟩, hB'⟩ := hB
    rw [List.length_cons, show is.length + 1 + g = (is.length + g) + 1 by omega]
    have hw : Region.wanted o (yielded ops a.tmps) = true := by unfold Region.wanted; rw [hg]
    exact wpAny_pure ho (Region.noSelect_spec hs) (is.length + g) listed a w (Region.free_spec ho hf) (by simpa using hr) ⟨hw, hv⟩ (wpAny_pures hs is _ _ hB' h hk)
/-- until the block is done its own alone are ready -/
def onlyB (md : Region.Mode) (ops : Array Oper) (H : List Nat) : Nat → Array Bool → Bool
  | 0, _ => true
  | f + 1, listed => !(Region.ready md ops listed).isEmpty && (Region.ready md ops listed).all fun i => H.contains i && onlyB md ops H f (listed.setIfInBounds i true)
def wpAnyH (P : Program) (md : Region.Mode) (ops : Array Oper) (C : World → Prop) (L : Array Bool → Act → Prop) : Nat → Array Bool → Act → Prop
  | 0, listed, a => L listed a
  | f + 1, listed, a => Region.ready md ops listed ≠ [] ∧ ∀ i ∈ Region.ready md ops listed, qOp P ops C i (wpAnyH P md ops C L f (listed.setIfInBounds i true)) a
theorem wpAny_of_H {g : Nat} {L : Array Bool → Act → Prop} {Q' : Exit → Act → World → Prop} (hL : ∀ listed a w, C w → L listed a → wpAny P md ops Q' g listed a w) :
    ∀ (f : Nat) (listed : Array Bool) (a : Act) (w : World), C w → wpAnyH P md ops C L f listed a → wpAny P md ops Q' (f + g) listed a w
  | 0, listed, a, w, hw, h => by rw [Nat.zero_add]; exact hL _ _ _ hw h
  | f + 1, listed, a, w, hw, h => by
    rw [show f + 1 + g = (f + g) + 1 by omega]
    exact ⟨fun h0 => absurd h0 h.1, fun i hi => wpOp_of_qOp hw (fun a' w' hw' h' => wpAny_of_H hL f _ a' w' hw' h') (h.2 i hi)⟩
theorem wpAnyH_first {H : List Nat} {i : Nat} {oi : Oper} {v : Value} {L : Array Bool → Act → Prop} (hi : ops[i]? = some oi) (hsel : ∀ (j : Nat) (o : Oper) cs b, ops[j]? = some o → o.op ≠ .select cs b)
    (hdone : ∀ listed a, L listed a → ∀ j ∈ Region.ready md ops listed, j ∉ H) :
    ∀ (f : Nat) (listed : Array Bool) (a : Act), onlyB md ops H (f + 1) listed = true →
      (∀ j oj, ops[j]? = some oj → j ≠ i → listed.getD j true = false → (∀ e ∈ oj.after, Region.binds md e = true → e.on ≠ i) → oi.apart ops oj = true) →
      i ∈ Region.ready md ops listed → YieldsIn P ops C oi v a →
      wpAnyH P md ops C L f (listed.setIfInBounds i true) (a.put oi.dst v) → wpAnyH P md ops C L (f + 1) listed a := by
  intro f
  induction f with
  | zero =>
    intro listed a hB _ hr hy H'
    refine ⟨fun h => (by rw [h] at hr; cases hr), fun j hj => ?_⟩
    by_cases hji : j = i
    · subst hji; exact hy.qOp hi H'
    · exfalso
      simp only [onlyB, Bool.and_eq_true, List.all_eq_true] at hB
      have := (hB.2 j hj).1
      exact hdone _ _ H' j (ready_mono hj hji) (by simpa using this)
  | succ f ih =>
    intro listed a hB hfree hr hy H'
    have hun := (mem_ready.1 hr).1
    refine ⟨fun h => (by rw [h] at hr; cases hr), fun j hj => ?_⟩
    by_cases hji : j = i
    · subst hji; exact hy.qOp hi H'
    · have h1 := H'.2 j (ready_mono hj hji)
      obtain ⟨hjun, oj, hoj, hall⟩ := mem_ready.1 hj
      have hnot : ∀ e ∈ oj.after, Region.binds md e = true → e.on ≠ i := fun e he hb heq => by
        have h1 := hall e he hb
        rw [heq, getD_both hun] at h1
        cases h1
      have h2 := qOp_put hoj (hfree j oj hoj hji hjun hnot) (fun cs b => hsel i oi cs b hi) (fun cs b => hsel j oj cs b hoj) hy h1
      have hfree' : ∀ k ok, ops[k]? = some ok → k ≠ i → (listed.setIfInBounds j true).getD k true = false →
          (∀ e ∈ ok.after, Region.binds md e = true → e.on ≠ i) → oi.apart ops ok = true := fun k ok hk hki hun hno => by
        refine hfree k ok hk hki ?_ hno
        by_cases hjk : j = k
        · subst hjk; exact hjun
        · rw [getD_set_ne true hjk] at hun; exact hun
      have hB2 : onlyB md ops H (f + 1) (listed.setIfInBounds j true) = true := by
        rw [onlyB, Bool.and_eq_true, List.all_eq_true] at hB
        have := hB.2 j hj
        rw [Bool.and_eq_true] at this
        exact this.2
      refine qOp_mono (fun a' h3 => ih (listed.setIfInBounds j true) a' hB2 hfree' (ready_mono hr (Ne.symm hji)) h3.1 ?_) h2
      rw [Array.setIfInBounds_comm _ _ hji]
      exact h3.2
/-- the walk of a quiet block -/
def wpQI (P : Program) (ops : Array Oper) (C : World → Prop) (Q : Act → Prop) : List Nat → Act → Prop
  | [], a => Q a
  | i :: is, a => ∃ o, ops[i]? = some o ∧ o.guard = none ∧ o.quiet P a C (wpQI P ops C Q is)
/-- behind the block none of it is ready -/
def outB (md : Region.Mode) (ops : Array Oper) (H : List Nat) (listed : Array Bool) : Bool := (Region.ready md ops listed).all fun i => !H.contains i
theorem wpAnyH_lex (hs : Region.noSelect ops = true) {H : List Nat} {Q : Act → Prop} : ∀ (is : List Nat) (listed : Array Bool) (a : Act), lexI md ops is listed = true → onlyB md ops H is.length listed = true → outB md ops H (lst listed is) = true →
    wpQI P ops C Q is a → wpAnyH P md ops C (fun listed' a' => outB md ops H listed' = true ∧ listed' = lst listed is ∧ Q a') is.length listed a
  | [], listed, a, _, _, ho, h => ⟨ho, rfl, h⟩
  | i :: is, listed, a, hB, hO, ho, ⟨o, hio, hg, hq⟩ => by
    simp only [lexI, Bool.and_eq_true] at hB
    obtain ⟨⟨hr, hf⟩, hB'⟩ := hB
    have hr' : i ∈ Region.ready md ops listed := by simpa using hr
    have hw : Region.wanted o (yielded ops a.tmps) = true := by unfold Region.wanted; rw [hg]
    have hst : qOp P ops C i (wpQI P ops C Q is) a := by unfold qOp; simp only [hio, hw, if_true]; exact hq
    obtain ⟨v, hy, hK⟩ := yieldsIn_of_qOp hio hst
    have hO2 : onlyB md ops H is.length (listed.setIfInBounds i true) = true := by
      have hO' := hO
      rw [List.length_cons, onlyB, Bool.and_eq_true, List.all_eq_true] at hO'
      have := hO'.2 i hr'
      rw [Bool.and_eq_true] at this
      exact this.2
    exact wpAnyH_first (H := H) hio (Region.noSelect_spec hs) (fun listed' a' hL j hj => by
      have := List.all_eq_true.1 hL.1 j hj
      simpa using this) is.length listed a hO (Region.free_spec hio hf) hr' hy (wpAnyH_lex hs is _ _ hB' hO2 ho hK)
theorem wpAny_quietBlock (hs : Region.noSelect ops = true) {g : Nat} {Q : Act → Prop} {Q' : Exit → Act → World → Prop} {w : World} (is : List Nat) (listed : Array Bool) (a : Act) (hB : (lexI md ops is listed && (onlyB md ops is is.length listed && outB md ops is (lst listed is))) = true)
    (hw : C w) (h : wpQI P ops C Q is a) (hk : ∀ a' w', C w' → Q a' → wpAny P md ops Q' g (lst listed is) a' w') : wpAny P md ops Q' (is.length + g) listed a w := by
  simp only [Bool.and_eq_true] at hB
  refine wpAny_of_H (L := fun listed' a' => outB md ops is listed' = true ∧ listed' = lst listed is ∧ Q a') (fun listed' a' w' hw' hL => ?_) is.length listed a w hw (wpAnyH_lex hs is listed a hB.1 hB.2.1 hB.2.2 h)
  rw [hL.2.1]; exact hk a' w' hw' hL.2.2
/-- what alone is ready -/
theorem wpAny_only {i g : Nat} {o : Oper} {listed : Array Bool} {a : Act} {w : World} {Q : Exit → Act → World → Prop} (hr : Region.ready md ops listed = [i]) (ho : ops[i]? = some o) (hg : o.guard = none) (h : o.wp P a w (wpAny P md ops Q g (listed.setIfInBounds i true)) Q) : wpAny P md ops Q (g + 1) listed a w := by
  refine ⟨fun h0 => (by rw [hr] at h0; cases h0), fun j hj => ?_⟩
  rw [hr] at hj
  obtain rfl : j = i := by simpa using hj
  have hw : Region.wanted o (yielded ops a.tmps) = true := by unfold Region.wanted; rw [hg]
  unfold wpOp
  simp only [ho, hw, if_true]
  exact .inl h
theorem wpAny_end {listed : Array Bool} {a : Act} {w : World} {Q : Exit → Act → World → Prop} (hr : Region.ready md ops listed = []) (h : Q .normal a w) : wpAny P md ops Q 0 listed a w := ⟨hr, h⟩
theorem wpAny_exits {Q : Exit → Act → World → Prop} (hQ : ∀ a w, R a w → Q .normal a w) : ∀ (fuel : Nat) (listed : Array Bool) (a : Act) (w : World), wpAny P md ops (QN R) fuel listed a w → wpAny P md ops Q fuel listed a w := by
  have stp : ∀ {o : Oper} {a : Act} {w : World} {K : Act → World → Prop}, o.wp P a w K (QN R) → o.wp P a w K Q := by
    intro o a w K h
    unfold Oper.wp at *
    generalize (execOp a.eval o).run P w = r at *
    cases r with
    | ok x w' =>
      cases x <;> simp only [Oper.upon] at h ⊢
      case value u => exact h
      case skip => exact h
      case defer d => exact h
      case enter f args =>
        refine h.mono fun e w'' he => ?_
        cases e with
        | returned u => exact he
        | panicked c => exact absurd he (fun h => h)
        | outgrown => exact absurd he QN_out
      case row row args => exact h
    | halt x w' => cases x <;> simp only [Oper.upon] at h ⊢ <;> exact absurd h (fun h => h)
  intro fuel
  induction fuel with
  | zero => intro listed a w h; exact ⟨h.1, hQ _ _ h.2⟩
  | succ fuel ih =>
    intro listed a w h
    refine ⟨fun h0 => hQ _ _ (h.1 h0), fun i hi => ?_⟩
    have h1 := wpOp_mono (fun a' w' => ih _ a' w') (h.2 i hi)
    unfold wpOp at h1 ⊢
    split
    · rename_i ho; simp only [ho] at h1; exact h1
    · rename_i o ho
      simp only [ho] at h1
      split
      · rename_i hw
        simp only [hw, if_true] at h1
        rcases h1 with h1 | h1
        · exact .inl (stp h1)
        · exact absurd h1.2 QN_out
      · rename_i hw; simp only [hw] at h1; exact h1
/-- what comes in a row -/
def wpSeqI (P : Program) (ops : Array Oper) (Q : Act → World → Prop) : List Nat → Act → World → Prop
  | [], a, w => Q a w
  | i :: is, a, w => ∃ o, ops[i]? = some o ∧ o.guard = none ∧ o.wp P a w (wpSeqI P ops Q is) (QN Q)
def seqI (md : Region.Mode) (ops : Array Oper) : List Nat → Array Bool → Bool
  | [], listed => (Region.ready md ops listed).isEmpty
  | i :: is, listed => decide (Region.ready md ops listed = [i]) && seqI md ops is (listed.setIfInBounds i true)
theorem wpAny_seqI {Q : Act → World → Prop} : ∀ (is : List Nat) (listed : Array Bool) (a : Act) (w : World), seqI md ops is listed = true → wpSeqI P ops Q is a w → wpAny P md ops (QN Q) is.length listed a w
  | [], listed, a, w, hB, h => ⟨by simpa [seqI] using hB, h⟩
  | i :: is, listed, a, w, hB, ⟨o, ho, hg, h⟩ => by
    simp only [seqI, Bool.and_eq_true, decide_eq_true_eq] at hB
    exact wpAny_only hB.1 ho hg (Oper.wp_mono (fun a' w' h' => wpAny_seqI is _ a' w' hB.2 h') h)
def chkPH (md : Region.Mode) (ops : Array Oper) (p1 h p2 s : List Nat) : Bool :=
  Region.noSelect ops && (decide (p1.length + (h.length + (p2.length + s.length)) = ops.size) && (lexI md ops p1 (Array.replicate ops.size false) &&
    ((lexI md ops h (lst (Array.replicate ops.size false) p1) && (onlyB md ops h h.length (lst (Array.replicate ops.size false) p1) && outB md ops h (lst (lst (Array.replicate ops.size false) p1) h))) &&
      (lexI md ops p2 (lst (lst (Array.replicate ops.size false) p1) h) && seqI md ops s (lst (lst (lst (Array.replicate ops.size false) p1) h) p2)))))
theorem wp_region_sched {id : Nat} {Q : Exit → Act → World → Prop} {a : Act} {w : World} {l : List Oper} (p1 h p2 s : List Nat) (hm : P.follows .mixedOrders = true) (hB : chkPH .any l.toArray p1 h p2 s = true)
    (hw : QHid (wpPure P l.toArray (fun a1 => QHid (wpQI P l.toArray (fun w' => ∃ p : Regrown, w' = grow (redrawn w p.d) p.os) (fun a2 => ∀ w', (∃ p : Regrown, w' = grow (redrawn w p.d) p.os) →
      QHid (wpPure P l.toArray (fun a3 => wpSeqI P l.toArray (Q .normal) s a3 w') p2 a2)) h a1)) p1 a)) : (Code.region id l.toArray true).wp P Q a w := by
  unfold chkPH at hB
  simp only [Bool.and_eq_true, decide_eq_true_eq] at hB
  obtain ⟨k1, k2, k3, k4, k5, k6⟩ := hB
  refine wp_region_any hm ?_
  refine wpAny_exits (R := Q .normal) (fun a w h => h) _ _ _ _ ?_
  rw [← k2] at k3 k4 k5 k6 ⊢
  refine wpAny_pures k1 p1 _ a k3 hw.out fun a1 h1 => ?_
  refine wpAny_quietBlock (C := fun w' => ∃ p : Regrown, w' = grow (redrawn w p.d) p.os) k1 h _ a1 (by simp only [Bool.and_eq_true]; exact k4) ⟨⟨w.drawn + 1, #[]⟩, by rw [grow_empty]; rfl⟩ h1.out fun a2 w' hw' h2 => ?_
  refine wpAny_pures k1 p2 _ a2 k5 (h2 w' hw').out fun a3 h3 => ?_
  exact wpAny_seqI s _ a3 w' k6 h3
theorem wpPH_step {Q : Act → Prop} {i : Nat} {is : List Nat} {a : Act} {o : Oper} (ho : ops[i]? = some o) (hg : o.guard = none)
    (h : ∀ K : Act → Prop, (∀ a, QHid (wpPure P ops Q is a) → K a) → ∃ v, (∀ W, (execOp a.eval o).run P W = .ok (.value v) W) ∧ K (a.put o.dst v)) : QHid (wpPure P ops Q (i :: is) a) := by
  obtain ⟨v, h1, h2⟩ := h (fun a => QHid (wpPure P ops Q is a)) (fun _ h => h)
  exact ⟨o, ho, hg, v, h1, h2.out⟩
theorem wpSI_step {Q : Act → World → Prop} {i : Nat} {is : List Nat} {a : Act} {w : World} {o : Oper} (ho : ops[i]? = some o) (hg : o.guard = none)
    (h : ∀ K : Act → World → Prop, (∀ a w, wpSeqI P ops Q is a w → K a w) → ∃ w', (execOp a.eval o).run P w = .ok .skip w' ∧ K (a.put o.dst undef) w') : wpSeqI P ops Q (i :: is) a w := by
  obtain ⟨w', h1, h2⟩ := h (fun a w => wpSeqI P ops Q is a w) (fun _ _ h => h)
  refine ⟨o, ho, hg, ?_⟩
  unfold Oper.wp
  rw [h1]; exact h2
theorem wpSI_stepV {Q : Act → World → Prop} {i : Nat} {is : List Nat} {a : Act} {w : World} {o : Oper} (ho : ops[i]? = some o) (hg : o.guard = none)
    (h : ∀ K : Act → World → Prop, (∀ a w, wpSeqI P ops Q is a w → K a w) → ∃ v, (execOp a.eval o).run P w = .ok (.value v) w ∧ K (a.put o.dst v) w) : wpSeqI P ops Q (i :: is) a w := by
  obtain ⟨v, h1, h2⟩ := h (fun a w => wpSeqI P ops Q is a w) (fun _ _ h => h)
  refine ⟨o, ho, hg, ?_⟩
  unfold Oper.wp
  rw [h1]; exact h2
theorem wpSI_nil {Q : Act → World → Prop} {a : Act} {w : World} (h : Q a w) : wpSeqI P ops Q [] a w := h
theorem wpPH_nil {Q : Act → Prop} {a : Act} (h : Q a) : QHid (wpPure P ops Q [] a) := ⟨h⟩
theorem wpQI_step {Q : Act → Prop} {i : Nat} {is : List Nat} {a : Act} {o : Oper} (ho : ops[i]? = some o) (hg : o.guard = none)
    (h : ∀ K : Act → Prop, (∀ a, QHid (wpQI P ops C Q is a) → K a) → o.quiet P a C K) : QHid (wpQI P ops C Q (i :: is) a) :=
  ⟨o, ho, hg, Oper.quiet_mono (fun a h => h.out) (h (fun a => QHid (wpQI P ops C Q is a)) (fun _ h => h))⟩
theorem wpQI_nil {Q : Act → Prop} {a : Act} (h : Q a) : QHid (wpQI P ops C Q [] a) := ⟨h⟩
end
end Go.Proofs.YthmfgnpkbcbkcaaDoor
