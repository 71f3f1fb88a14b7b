import Derived.Test.YtjpfmbffiagjgaaGreatDoorQB
/- a region that draws its order: whatever yields the same in all worlds of a class is done first; what alone is then ready is walked (and keeps the class) -/
set_option linter.all false
set_option maxRecDepth 100000
namespace Go.Proofs.YtjpfmbffiagjgaaGreatDoor
open Go.RowKit Go.Sort
section
variable {P : Program} {ops : Array Oper} {md : Region.Mode} {R : Act → World → Prop} {C : World → Prop}
def PureC (P : Program) (ops : Array Oper) (C : World → Prop) (o : Oper) (v : Value) (a : Act) : Prop := (Region.wanted o (yielded ops a.tmps) = true ∧ ∀ W, C W → (execOp a.eval o).run P W = .ok (.value v) W) ∨ (Region.wanted o (yielded ops a.tmps) = false ∧ v = undef)
theorem wpOp_putC {i j : Nat} {oi oj : Oper} {v : Value} (hj : ops[j]? = some oj) (hap : oi.apart ops oj = true)
    (hsi : ∀ cs b, oi.op ≠ .select cs b) (hsj : ∀ cs b, oj.op ≠ .select cs b) {K : Act → World → Prop} {a : Act} {w : World}
    (hy : PureC P ops C oi v a) (h : wpOp P ops (QN R) j K (a.put oi.dst v) w) :
    wpOp P ops (QN R) j (fun a' w' => PureC P ops C oi v a' ∧ K (a'.put oi.dst v) w') a w := by
  obtain ⟨h1, h2, h3⟩ := Oper.apart_spec hap
  have keep : ∀ (a : Act), PureC P ops C oi v a → ∀ u, PureC P ops C oi v (a.put oj.dst u) := fun a hy u => by
    rcases hy with hy | hy
    · exact .inl ⟨(wanted_put oi a oj.dst u h3).trans hy.1, fun W hW => by rw [execOp_put oi hsi a oj.dst u h3]; exact hy.2 W hW⟩
    · exact .inr ⟨(wanted_put oi a oj.dst u h3).trans hy.1, hy.2⟩
  unfold wpOp at *
  simp only [hj] at *
  rw [wanted_put oj a oi.dst v h1] at h
  split
  · rename_i hw
    simp only [hw, if_true] at h
    rcases h with h | h
    · left
      unfold Oper.wp at *
      rw [execOp_put oj hsj a oi.dst v h1] at h
      generalize (execOp a.eval oj).run P w = r at *
      cases r with
      | ok x w' =>
        cases x <;> simp only [Oper.upon] at h ⊢
        case value u => exact ⟨keep a hy u, by rw [← Act.put_comm a v u h2]; exact h⟩
        case skip => exact ⟨keep a hy _, by rw [← Act.put_comm a v undef h2]; exact h⟩
        case defer d =>
          refine ⟨?_, ?_⟩
          · have := keep a hy undef
            cases hd : oj.dst <;> simp only [hd, Act.put] at this ⊢ <;> exact this
          · have h5 : Act.put ({ Act.put a oi.dst v with defers := d :: (Act.put a oi.dst v).defers } : Act) oj.dst undef = Act.put (Act.put ({ a with defers := d :: a.defers } : Act) oj.dst undef) oi.dst v := by
              have := Act.put_comm ({ a with defers := d :: a.defers } : Act) v undef h2
              rw [← this]
              cases hi : oi.dst <;> rfl
            rw [← h5]; exact h
        case enter f args =>
          refine h.mono fun e w'' he => ?_
          cases e with
          | returned u => exact ⟨keep a hy u, by rw [← Act.put_comm a v u h2]; exact he⟩
          | panicked c => exact he
          | outgrown => exact absurd he QN_out
        case row row args => exact h.mono fun u w'' he => ⟨keep a hy u, by rw [← Act.put_comm a v u h2]; exact he⟩
      | halt x w' => cases x <;> simp only [Oper.upon] at h ⊢ <;> exact h
    · exact absurd h.2 QN_out
  · rename_i hw
    simp only [hw] at h
    exact ⟨keep a hy _, by rw [← Act.put_comm a v undef h2]; exact h⟩
def wpAnyC (P : Program) (md : Region.Mode) (ops : Array Oper) (C : World → Prop) (R : Act → World → Prop) : Nat → Array Bool → Act → World → Prop
  | 0, listed, a, w => Region.ready md ops listed = [] ∧ R a w
  | f + 1, listed, a, w => Region.ready md ops listed ≠ [] ∧ ∀ i ∈ Region.ready md ops listed, wpOp P ops (QN R) i (fun a' w' => C w' ∧ wpAnyC P md ops C R f (listed.setIfInBounds i true) a' w') a w
theorem wpAny_of_C : ∀ (f : Nat) (listed : Array Bool) (a : Act) (w : World), wpAnyC P md ops C R f listed a w → wpAny P md ops (QN R) f listed a w
  | 0, _, _, _, h => h
  | f + 1, _, _, _, h => ⟨fun h0 => absurd h0 h.1, fun i hi => wpOp_mono (fun a' w' h' => wpAny_of_C f _ a' w' h'.2) (h.2 i hi)⟩
theorem wpAnyC_pure {i : Nat} {oi : Oper} {v : Value} (hi : ops[i]? = some oi) (hsel : ∀ (j : Nat) (o : Oper) cs b, ops[j]? = some o → o.op ≠ .select cs b) :
    ∀ (fuel : Nat) (listed : Array Bool) (a : Act) (w : World),
      (∀ j oj, ops[j]? = some oj → j ≠ i → listed.getD j true = false → (∀ e ∈ oj.after, Region.binds md e = true → e.on ≠ i) → oi.apart ops oj = true) →
      i ∈ Region.ready md ops listed → PureC P ops C oi v a → C w →
      wpAnyC P md ops C R fuel (listed.setIfInBounds i true) (a.put oi.dst v) w → wpAnyC P md ops C R (fuel + 1) listed a w := by
  have self : ∀ {K : Act → World → Prop} {a : Act} {w : World}, PureC P ops C oi v a → C w → K (a.put oi.dst v) w → wpOp P ops (QN R) i (fun a' w' => C w' ∧ K a' w') a w := by
    intro K a w hy hc h
    unfold wpOp
    rcases hy with hy | ⟨hy, rfl⟩
    · simp only [hi, hy.1, if_true]
      left
      unfold Oper.wp
      rw [hy.2 w hc]; exact ⟨hc, h⟩
    · simp only [hi, hy, Bool.false_eq_true, if_false]
      exact ⟨hc, h⟩
  intro fuel
  induction fuel with
  | zero =>
    intro listed a w _ hr hy hc H
    refine ⟨fun h => (by rw [h] at hr; cases hr), fun j hj => ?_⟩
    by_cases hji : j = i
    · subst hji; exact self hy hc H
    · have := ready_mono hj hji
      rw [H.1] at this
      cases this
  | succ fuel ih =>
    intro listed a w hfree hr hy hc H
    refine ⟨fun h => (by rw [h] at hr; cases hr), fun j hj => ?_⟩
    by_cases hji : j = i
    · subst hji; exact self hy hc H
    · have h1 := H.2 j (ready_mono hj hji)
      obtain ⟨hjun, oj, hoj, hall⟩ := mem_ready.1 hj
      have hun := (mem_ready.1 hr).1
      have hnot : ∀ e ∈ oj.after, Region.binds md e = true → e.on ≠ i := fun e he hb heq => by
        have h1 := hall e he hb
        rw [heq, getD_both hun] at h1
        cases h1
      have h2 := wpOp_putC (i := i) hoj (hfree j oj hoj hji hjun hnot) (fun cs b => hsel i oi cs b hi) (fun cs b => hsel j oj cs b hoj) hy h1
      have hfree' : ∀ k ok, ops[k]? = some ok → k ≠ i → (listed.setIfInBounds j true).getD k true = false →
          (∀ e ∈ ok.after, Region.binds md e = true → e.on ≠ i) → oi.apart ops ok = true := fun k ok hk hki hun hno => by
        refine hfree k ok hk hki ?_ hno
        by_cases hjk : j = k
        · subst hjk; exact hjun
        · rw [getD_set_ne true hjk] at hun; exact hun
      refine wpOp_mono (fun a' w' h3 => ⟨h3.2.1, ih (listed.setIfInBounds j true) a' w' hfree' (ready_mono hr (Ne.symm hji)) h3.1 h3.2.1 ?_⟩) h2
      rw [Array.setIfInBounds_comm _ _ hji]
      exact h3.2.2
/-! ### phases -/
inductive PC where
  | P (i : Nat)
  | S (i : Nat)
def chkC1 (md : Region.Mode) (ops : Array Oper) : List PC → Array Bool → Bool
  | [], l => (Region.ready md ops l).isEmpty
  | .P i :: ps, l => (Region.ready md ops l).contains i && (Region.free md ops l i && chkC1 md ops ps (l.setIfInBounds i true))
  | .S i :: ps, l => decide (Region.ready md ops l = [i]) && (decide (i < ops.size) && chkC1 md ops ps (l.setIfInBounds i true))
def wpCs (P : Program) (ops : Array Oper) (C : World → Prop) (R : Act → World → Prop) : List PC → Act → World → Prop
  | [], a, w => R a w
  | .P i :: ps, a, w => ∃ o v, ops[i]? = some o ∧ PureC P ops C o v a ∧ QHid (wpCs P ops C R ps (a.put o.dst v) w)
  | .S i :: ps, a, w => wpList P ops (QN fun a' w' => C w' ∧ QHid (wpCs P ops C R ps a' w')) (opsI ops [i]) a w
theorem wpAnyC_ph (hs : Region.noSelect ops = true) : ∀ (ps : List PC) (listed : Array Bool) (a : Act) (w : World), chkC1 md ops ps listed = true → C w → wpCs P ops C R ps a w → wpAnyC P md ops C R ps.length listed a w
  | [], listed, a, w, hB, _, h => ⟨by simpa [chkC1] using hB, h⟩
  | .P i :: ps, listed, a, w, hB, hc, ⟨o, v, ho, hv, h⟩ => by
    simp only [chkC1, Bool.and_eq_true] at hB
    obtain ⟨hr, hf, hB'⟩ := hB
    exact wpAnyC_pure ho (Region.noSelect_spec hs) ps.length listed a w (Region.free_spec ho hf) (by simpa using hr) hv hc (wpAnyC_ph hs ps _ _ _ hB' hc h.out)
  | .S i :: ps, listed, a, w, hB, hc, h => by
    simp only [chkC1, Bool.and_eq_true, decide_eq_true_eq] at hB
    obtain ⟨hr, hi, hB'⟩ := hB
    have ho : ops[i]? = some ops[i] := Array.getElem?_eq_getElem hi
    have e1 : opsI ops [i] = [ops[i]] := by unfold opsI; rw [List.filterMap_cons, ho]; rfl
    refine ⟨fun h0 => (by rw [hr] at h0; cases h0), fun j hj => ?_⟩
    rw [hr] at hj
    obtain rfl : j = i := by simpa using hj
    have h' : wpList P ops (QN fun a' w' => C w' ∧ QHid (wpCs P ops C R ps a' w')) [ops[j]] a w := by rw [← e1]; exact h
    exact wpOp_mono (fun a' w' h2 => ⟨h2.1, wpAnyC_ph hs ps _ _ _ hB' h2.1 h2.2.out⟩) (wpOp_of_list ho h')
def chkC (md : Region.Mode) (ops : Array Oper) (ps : List PC) : Bool := Region.noSelect ops && (decide (ps.length = ops.size) && chkC1 md ops ps (Array.replicate ops.size false))
theorem wp_region_phc {id : Nat} {Q : Exit → Act → World → Prop} {a : Act} {w : World} {l : List Oper} (C : World → Prop) (ps : List PC) (hm : P.follows .mixedOrders = true) (hB : chkC .any l.toArray ps = true) (hC : C w.drew)
    (h : QHid (wpCs P l.toArray C (Q .normal) ps a w.drew)) : (Code.region id l.toArray true).wp P Q a w := by
  unfold chkC at hB
  simp only [Bool.and_eq_true, decide_eq_true_eq] at hB
  obtain ⟨k1, k2, k3⟩ := hB
  refine wp_region_any hm ?_
  refine wpAny_exits (R := Q .normal) (fun a w h => h) _ _ _ _ ?_
  rw [← k2] at k3 ⊢
  exact wpAny_of_C _ _ _ _ (wpAnyC_ph k1 ps _ a _ k3 hC h.out)
/-! ### steps -/
variable {ps : List PC} {a : Act} {w : World}
theorem wpCs_nil (h : R a w) : QHid (wpCs P ops C R [] a w) := ⟨h⟩
theorem wpCs_P {i : Nat} {o : Oper} (ho : ops[i]? = some o) (hw : Wtd ops o a) (h : ∀ K : Act → Prop, (∀ a, QHid (wpCs P ops C R ps a w) → K a) → ∃ v, (∀ W, C W → (execOp a.eval o).run P W = .ok (.value v) W) ∧ K (a.put o.dst v)) : QHid (wpCs P ops C R (.P i :: ps) a w) := by
  obtain ⟨v, h1, h2⟩ := h (fun a => QHid (wpCs P ops C R ps a w)) (fun _ h => h)
  exact ⟨o, v, ho, .inl ⟨hw, h1⟩, h2⟩
theorem wpCs_U {i : Nat} {o : Oper} (ho : ops[i]? = some o) (hw : Region.wanted o (yielded ops a.tmps) = false) (h : QHid (wpCs P ops C R ps (a.put o.dst undef) w)) : QHid (wpCs P ops C R (.P i :: ps) a w) :=
  ⟨o, undef, ho, .inr ⟨hw, rfl⟩, h⟩
theorem wpCs_S {i : Nat} {l : List Oper} (hl : opsI ops [i] = l) (h : ∀ Q' : Exit → Act → World → Prop, (∀ a' w', C w' → QHid (wpCs P ops C R ps a' w') → Q' .normal a' w') → (LetsOut Q' → False) → wpList P ops Q' l a w) : QHid (wpCs P ops C R (.S i :: ps) a w) := by
  have := h (QN fun a' w' => C w' ∧ QHid (wpCs P ops C R ps a' w')) (fun _ _ h h' => ⟨h, h'⟩) QN_out
  rw [← hl] at this
  exact ⟨this⟩
end
end Go.Proofs.YtjpfmbffiagjgaaGreatDoor
