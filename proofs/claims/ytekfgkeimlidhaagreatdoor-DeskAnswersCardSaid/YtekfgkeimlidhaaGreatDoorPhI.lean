import Derived.Test.YtekfgkeimlidhaaGreatDoorQB
import Derived.Test.YtekfgkeimlidhaaGreatDoorStillIn
/- a region that draws its order: whatever yields the same in all worlds of a class is done first; what alone is then ready is walked (and keeps the class) -/
set_option linter.all false
set_option maxRecDepth 100000
namespace Go.Proofs.YtekfgkeimlidhaaGreatDoor
open Go.RowKit Go.Sort
section
variable {P : Program} {ops : Array Oper} {md : Region.Mode} {R : Act → World → Prop} {C : World → Prop}
def PureC (P : Program) (ops : Array Oper) (C : World → Prop) (o : Oper) (v : Value) (a : Act) : Prop := (Region.wanted o (yielded ops a.tmps) = true ∧ ∀ W, C W → (execOp a.eval o).run P W = .ok (.value v) W) ∨ (Region.wanted o (yielded ops a.tmps) = false ∧ v = undef)
theorem wpOp_putC {i j : Nat} {oi oj : Oper} {v : Value} (hj : ops[j]? = some oj) (hap : oi.apart ops oj = true)
    (hsi : ∀ cs b, oi.op ≠ .select cs b) (hsj : ∀ cs b, oj.op ≠ .select cs b) {K : Act → World → Prop} {a : Act} {w : World}
    (hy : PureC P ops C oi v a) (h : wpOp P ops (QN R) j K (a.put oi.dst v) w) :
    wpOp P ops (QN R) j (fun a' w' => PureC P ops C oi v a' ∧ K (a'.put oi.dst v) w') a w := by
  obtain ⟨h1, h2, h3⟩ := Oper.apart_spec hap
  have keep : ∀ (a : Act), PureC P ops C oi v a → ∀ u, PureC P ops C oi v (a.put oj.dst u) := fun a hy u => by
    rcases hy with hy | hy
    · exact .inl ⟨(wanted_put oi a oj.dst u h3).trans hy.1, fun W hW => by rw [execOp_put oi hsi a oj.dst u h3]; exact hy.2 W hW⟩
    · exact .inr ⟨(wanted_put oi a oj.dst u h3).trans hy.1, hy.2⟩
  unfold wpOp at *
  simp only [hj] at *
  rw [wanted_put oj a oi.dst v h1] at h
  split
  · rename_i hw
    simp only [hw, if_true] at h
    rcases h with h | h
    · left
      unfold Oper.wp at *
      rw [execOp_put oj hsj a oi.dst v h1] at h
      generalize (execOp a.eval oj).run P w = r at *
      cases r with
      | ok x w' =>
        cases x <;> simp only [Oper.upon] at h ⊢
        case value u => exact ⟨keep a hy u, by rw [← Act.put_comm a v u h2]; exact h⟩
        case skip => exact ⟨keep a hy _, by rw [← Act.put_comm a v undef h2]; exact h⟩
        case defer d =>
          refine ⟨?_, ?_⟩
          · have := keep a hy undef
            cases hd : oj.dst <;> simp only [hd, Act.put] at this ⊢ <;> exact this
          · have h5 : Act.put ({ Act.put a oi.dst v with defers := d :: (Act.put a oi.dst v).defers } : Act) oj.dst undef = Act.put (Act.put ({ a with defers := d :: a.defers } : Act) oj.dst undef) oi.dst v := by
              have := Act.put_comm ({ a with defers := d :: a.defers } : Act) v undef h2
              rw [← this]
              cases hi : oi.dst <;> rfl
            rw [← h5]; exact h
        case enter f args =>
          refine h.mono fun e w'' he => ?_
          cases e with
          | returned u => exact ⟨keep a hy u, by rw [← Act.put_comm a v u h2]; exact he⟩
          | panicked c => exact he
          | outgrown => exact absurd he QN_out
        case row row args => exact h.mono fun u w'' he => ⟨keep a hy u, by rw [← Act.put_comm a v u h2]; exact he⟩
      | halt x w' => cases x <;> simp only [Oper.upon] at h ⊢ <;> exact h
    · exact absurd h.2 QN_out
  · rename_i hw
    simp only [hw] at h
    exact ⟨keep a hy _, by rw [← Act.put_comm a v undef h2]; exact h⟩
def wpAnyC (P : Program) (md : Region.Mode) (ops : Array Oper) (C : World → Prop) (R : Act → World → Prop) : Nat → Array Bool → Act → World → Prop
  | 0, listed, a, w => Region.ready md ops listed = [] ∧ R a w
  | f + 1, listed, a, w => Region.ready md ops listed ≠ [] ∧ ∀ i ∈ Region.ready md ops listed, wpOp P ops (QN R) i (fun a' w' => C w' ∧ wpAnyC P md ops C R f (listed.setIfInBounds i true) a' w') a w
theorem wpAny_of_C : ∀ (f : Nat) (listed : Array Bool) (a : Act) (w : World), wpAnyC P md ops C R f listed a w → wpAny P md ops (QN R) f listed a w
  | 0, _, _, _, h => h
  | f + 1, _, _, _, h => ⟨fun h0 => absurd h0 h.1, fun i hi => wpOp_mono (fun a' w' h' => wpAny_of_C f _ a' w' h'.2) (h.2 i hi)⟩
theorem wpAnyC_pure {i : Nat} {oi : Oper} {v : Value} (hi : ops[i]? = some oi) (hsel : ∀ (j : Nat) (o : Oper) cs b, ops[j]? = some o → o.op ≠ .select cs b) :
    ∀ (fuel : Nat) (listed : Array Bool) (a : Act) (w : World),
      (∀ j oj, ops[j]? = some oj → j ≠ i → listed.getD j true = false → (∀ e ∈ oj.after, Region.binds md e = true → e.on ≠ i) → oi.apart ops oj = true) →
      i ∈ Region.ready md ops listed → PureC P ops C oi v a → C w →
      wpAnyC P md ops C R fuel (listed.setIfInBounds i true) (a.put oi.dst v) w → wpAnyC P md ops C R (fuel + 1) listed a w := by
  have self : ∀ {K : Act → World → Prop} {a : Act} {w : World}, PureC P ops C oi v a → C w → K (a.put oi.dst v) w → wpOp P ops (QN R) i (fun a' w' => C w' ∧ K a' w') a w := by
    intro K a w hy hc h
    unfold wpOp
    rcases hy with hy | ⟨hy, rfl⟩
    · simp only [hi, hy.1, if_true]
      left
      unfold Oper.wp
      rw [hy.2 w hc]; exact ⟨hc, h⟩
    · simp only [hi, hy, Bool.false_eq_true, if_false]
      exact ⟨hc, h⟩
  intro fuel
  induction fuel with
  | zero =>
    intro listed a w _ hr hy hc H
    refine ⟨fun h => (by rw [h] at hr; cases hr), fun j hj => ?_⟩
    by_cases hji : j = i
    · subst hji; exact self hy hc H
    · have := ready_mono hj hji
      rw [H.1] at this
      cases this
  | succ fuel ih =>
    intro listed a w hfree hr hy hc H
    refine ⟨fun h => (by rw [h] at hr; cases hr), fun j hj => ?_⟩
    by_cases hji : j = i
    · subst hji; exact self hy hc H
    · have h1 := H.2 j (ready_mono hj hji)
      obtain ⟨hjun, oj, hoj, hall⟩ := mem_ready.1 hj
      have hun := (mem_ready.1 hr).1
      have hnot : ∀ e ∈ oj.after, Region.binds md e = true → e.on ≠ i := fun e he hb heq => by
        have h1 := hall e he hb
        rw [heq, getD_both hun] at h1
        cases h1
      have h2 := wpOp_putC (i := i) hoj (hfree j oj hoj hji hjun hnot) (fun cs b => hsel i oi cs b hi) (fun cs b => hsel j oj cs b hoj) hy h1
      have hfree' : ∀ k ok, ops[k]? = some ok → k ≠ i → (listed.setIfInBounds j true).getD k true = false →
          (∀ e ∈ ok.after, Region.binds md e = true → e.on ≠ i) → oi.apart ops ok = true := fun k ok hk hki hun hno => by
        refine hfree k ok hk hki ?_ hno
        by_cases hjk : j = k
        · subst hjk; exact hjun
        · rw [getD_set_ne true hjk] at hun; exact hun
      refine wpOp_mono (fun a' w' h3 => ⟨h3.2.1, ih (listed.setIfInBounds j true) a' w' hfree' (ready_mono hr (Ne.symm hji)) h3.1 h3.2.1 ?_⟩) h2
      rw [Array.setIfInBounds_comm _ _ hji]
      exact h3.2.2
/-! ### phases -/
inductive PC where
  | P (i : Nat)
  | S (i : Nat)
def chkC1 (md : Region.Mode) (ops : Array Oper) : List PC → Array Bool → Bool
  | [], l => (Region.ready md ops l).isEmpty
  | .P i :: ps, l => (Region.ready md ops l).contains i && (Region.free md ops l i && chkC1 md ops ps (l.setIfInBounds i true))
  | .S i :: ps, l => decide (Region.ready md ops l = [i]) && (decide (i < ops.size) && chkC1 md ops ps (l.setIfInBounds i true))
def wpCs (P : Program) (ops : Array Oper) (C : World → Prop) (R : Act → World → Prop) : List PC → Act → World → Prop
  | [], a, w => R a w
  | .P i :: ps, a, w => ∃ o v, ops[i]? = some o ∧ PureC P ops C o v a ∧ QHid (wpCs P ops C R ps (a.put o.dst v) w)
  | .S i :: ps, a, w => wpList P ops (QN fun a' w' => C w' ∧ QHid (wpCs P ops C R ps a' w')) (opsI ops [i]) a w
theorem wpAnyC_ph (hs : Region.noSelect ops = true) : ∀ (ps : List PC) (listed : Array Bool) (a : Act) (w : World), chkC1 md ops ps listed = true → C w → wpCs P ops C R ps a w → wpAnyC P md ops C R ps.length listed a w
  | [], listed, a, w, hB, _, h => ⟨by simpa [chkC1] using hB, h⟩
  | .P i :: ps, listed, a, w, hB, hc, ⟨o, v, ho, hv, h⟩ => by
    simp only [chkC1, Bool.and_eq_true] at hB
    obtain ⟨hr, hf, hB'⟩ := hB
    exact wpAnyC_pure ho (Region.noSelect_spec hs) ps.length listed a w (Region.free_spec ho hf) (by simpa using hr) hv hc (wpAnyC_ph hs ps _ _ _ hB' hc h.out)
  | .S i :: ps, listed, a, w, hB, hc, h => by
    simp only [chkC1, Bool.and_eq_true, decide_eq_true_eq] at hB
    obtain ⟨hr, hi, hB'⟩ := hB
    have ho : ops[i]? = some ops[i] := Array.getElem?_eq_getElem hi
    have e1 : opsI ops [i] = [ops[i]] := by unfold opsI; rw [List.filterMap_cons, ho]; rfl
    refine ⟨fun h0 => (by rw [hr] at h0; cases h0), fun j hj => ?_⟩
    rw [hr] at hj
    obtain rfl : j = i := by simpa using hj
    have h' : wpList P ops (QN fun a' w' => C w' ∧ QHid (wpCs P ops C R ps a' w')) [ops[j]] a w := by rw [← e1]; exact h
    exact wpOp_mono (fun a' w' h2 => ⟨h2.1, wpAnyC_ph hs ps _ _ _ hB' h2.1 h2.2.out⟩) (wpOp_of_list ho h')
def chkC (md : Region.Mode) (ops : Array Oper) (ps : List PC) : Bool := Region.noSelect ops && (decide (ps.length = ops.size) && chkC1 md ops ps (Array.replicate ops.size false))
theorem wp_region_phc {id : Nat} {Q : Exit → Act → World → Prop} {a : Act} {w : World} {l : List Oper} (C : World → Prop) (ps : List PC) (hm : P.follows .mixedOrders = true) (hB : chkC .any l.toArray ps = true) (hC : C w.drew)
    (h : QHid (wpCs P l.toArray C (Q .normal) ps a w.drew)) : (Code.region id l.toArray true).wp P Q a w := by
  unfold chkC at hB
  simp only [Bool.and_eq_true, decide_eq_true_eq] at hB
  obtain ⟨k1, k2, k3⟩ := hB
  refine wp_region_any hm ?_
  refine wpAny_exits (R := Q .normal) (fun a w h => h) _ _ _ _ ?_
  rw [← k2] at k3 ⊢
  exact wpAny_of_C _ _ _ _ (wpAnyC_ph k1 ps _ a _ k3 hC h.out)
/-! ### steps -/
variable {ps : List PC} {a : Act} {w : World}
theorem wpCs_nil (h : R a w) : QHid (wpCs P ops C R [] a w) := ⟨h⟩
theorem wpCs_P {i : Nat} {o : Oper} (ho : ops[i]? = some o) (hw : Wtd ops o a) (h : ∀ K : Act → Prop, (∀ a, QHid (wpCs P ops C R ps a w) → K a) → ∃ v, (∀ W, C W → (execOp a.eval o).run P W = .ok (.value v) W) ∧ K (a.put o.dst v)) : QHid (wpCs P ops C R (.P i :: ps) a w) := by
  obtain ⟨v, h1, h2⟩ := h (fun a => QHid (wpCs P ops C R ps a w)) (fun _ h => h)
  exact ⟨o, v, ho, .inl ⟨hw, h1⟩, h2⟩
theorem wpCs_U {i : Nat} {o : Oper} (ho : ops[i]? = some o) (hw : Region.wanted o (yielded ops a.tmps) = false) (h : QHid (wpCs P ops C R ps (a.put o.dst undef) w)) : QHid (wpCs P ops C R (.P i :: ps) a w) :=
  ⟨o, undef, ho, .inr ⟨hw, rfl⟩, h⟩
theorem wpCs_S {i : Nat} {l : List Oper} (hl : opsI ops [i] = l) (h : ∀ Q' : Exit → Act → World → Prop, (∀ a' w', C w' → QHid (wpCs P ops C R ps a' w') → Q' .normal a' w') → (LetsOut Q' → False) → wpList P ops Q' l a w) : QHid (wpCs P ops C R (.S i :: ps) a w) := by
  have := h (QN fun a' w' => C w' ∧ QHid (wpCs P ops C R ps a' w')) (fun _ _ h h' => ⟨h, h'⟩) QN_out
  rw [← hl] at this
  exact ⟨this⟩
end
end Go.Proofs.YtekfgkeimlidhaaGreatDoor
/- the phases' rules inside a fence that lets every function in -/
set_option linter.all false
set_option maxRecDepth 100000
namespace Go.Proofs.YtekfgkeimlidhaaGreatDoor
open Go.RowKit Go.Sort
section
variable {P : Program} {ops : Array Oper} {md : Region.Mode} {R : Act → World → Prop} {F : Fence} {m : Nat}
structure OpenR (F : Fence) : Prop where
  o : Open F
  rows : ∀ {n : Nat} {P : Program} {row : String} {args : Array Value} {w : World} {R : Value → World → Prop}, Rows P row args w R → RowsIn F n P row args w R
theorem openR_wide : OpenR Fence.wide := ⟨open_wide, fun h c cs _ => let ⟨v, w', r, s⟩ := h c cs; ⟨v, w', r, stepsIn_wide.2 s⟩⟩
theorem openR_round (l : Nat) : OpenR (Fence.wide.inRound l) := ⟨open_round l, fun h c cs _ => let ⟨v, w', r, s⟩ := h c cs; ⟨v, w', r, stepsIn_wide.2 s⟩⟩
theorem wpOpIn_of_wpOp (hF : OpenR F) {Q : Exit → Act → World → Prop} (hQ : ∀ a w, R a w → Q .normal a w) {i : Nat} {K K' : Act → World → Prop} {a : Act} {w : World} (hdef : ∀ o, ops[i]? = some o → ∀ c, o.op ≠ .defer c) (hK : ∀ a w, K a w → K' a w)
    (h : wpOp P ops (QN R) i K a w) : wpOpIn F m P ops Q i K' a w := by
  unfold wpOp at h
  unfold wpOpIn
  split
  · rename_i ho; simp only [ho] at h; exact hK _ _ h
  · rename_i o ho
    simp only [ho] at h
    split
    · rename_i hw
      simp only [hw, if_true] at h
      rcases h with h | h
      · refine ⟨fun f _ => hF.o.fn f, ?_⟩
        rw [Oper.semAt_plain F _ _ (hdef o ho)]
        unfold Oper.wp at h
        generalize (execOp a.eval o).run P w = r at *
        cases r with
        | ok x w' =>
          cases x <;> simp only [Oper.upon, Oper.uponIn] at h ⊢
          case value v => exact hK _ _ h
          case skip => exact hK _ _ h
          case defer d => exact hK _ _ h
          case enter f args =>
            refine ⟨fun hd => (by rw [hF.o.depth] at hd; cases hd), (hF.o.calls h).mono ?_⟩
            intro e w'' he
            cases e with
            | returned u => exact hK _ _ he
            | panicked c => exact absurd he (fun h => h)
            | outgrown => exact absurd he QN_out
          case row row args => exact ⟨fun hd => (by rw [hF.o.depth] at hd; cases hd), (hF.rows h).mono fun _ _ he => hK _ _ he⟩
        | halt x w' => cases x <;> simp only [Oper.upon, Oper.uponIn] at h ⊢ <;> exact absurd h (fun h => h)
      · exact absurd h.2 QN_out
    · rename_i hw
      simp only [hw] at h
      exact ⟨fun f _ => hF.o.fn f, hK _ _ h⟩
theorem wpAnyIn_of_any (hF : OpenR F) {Q : Exit → Act → World → Prop} (hQ : ∀ a w, R a w → Q .normal a w) (hdef : ∀ (i : Nat) (o : Oper), ops[i]? = some o → ∀ c, o.op ≠ .defer c) :
    ∀ (f : Nat) (listed : Array Bool) (a : Act) (w : World), wpAny P md ops (QN R) f listed a w → wpAnyIn F m P md ops Q f listed a w
  | 0, _, _, _, h => ⟨h.1, hQ _ _ h.2⟩
  | f + 1, listed, a, w, h => ⟨fun h0 => hQ _ _ (h.1 h0), fun i hi => wpOpIn_of_wpOp hF hQ (hdef i) (fun a' w' h' => wpAnyIn_of_any hF hQ hdef f _ a' w' h') (h.2 i hi)⟩
theorem wpIn_region_phc (hF : OpenR F) {id : Nat} {Q : Exit → Act → World → Prop} {a : Act} {w : World} {l : List Oper} (C : World → Prop) (ps : List PC) (hm : P.follows .mixedOrders = true) (hB : chkC .any l.toArray ps = true) (hd : noDefer l = true) (hC : C w.drew)
    (h : QHid (wpCs P l.toArray C (Q .normal) ps a w.drew)) : (Code.region id l.toArray true).wpIn F m P Q a w := by
  unfold chkC at hB
  simp only [Bool.and_eq_true, decide_eq_true_eq] at hB
  obtain ⟨k1, k2, k3⟩ := hB
  refine wpIn_region_any hm ?_
  refine wpAnyIn_of_any (R := Q .normal) hF (fun a w h => h) (noDefer_spec hd) _ _ _ _ ?_
  rw [← k2] at k3 ⊢
  exact wpAny_of_C _ _ _ _ (wpAnyC_ph k1 ps _ a _ k3 hC h.out)
theorem wpIn_region_ph (hF : OpenR F) {id : Nat} {Q : Exit → Act → World → Prop} {a : Act} {w : World} {l : List Oper} (ps : List Ph) (hm : P.follows .mixedOrders = true) (hB : chkPh .any l.toArray ps = true) (hd : noDefer l = true)
    (h : QHid (wpPs P l.toArray (Q .normal) ps a w.drew)) : (Code.region id l.toArray true).wpIn F m P Q a w := by
  unfold chkPh at hB
  simp only [Bool.and_eq_true, decide_eq_true_eq] at hB
  obtain ⟨k1, k2, k3⟩ := hB
  refine wpIn_region_any hm ?_
  refine wpAnyIn_of_any (R := Q .normal) hF (fun a w h => h) (noDefer_spec hd) _ _ _ _ ?_
  rw [← k2] at k3 ⊢
  exact wpAny_ph k1 ps _ a _ k3 h.out
end
end Go.Proofs.YtekfgkeimlidhaaGreatDoor
/- a region that draws its order, with two operations that may come in either order: a tree of phases -/
set_option linter.all false
set_option maxRecDepth 100000
namespace Go.Proofs.YtekfgkeimlidhaaGreatDoor
open Go.RowKit Go.Sort
section
variable {P : Program} {ops : Array Oper} {md : Region.Mode} {R : Act → World → Prop} {C : World → Prop}
inductive PT where
  | N
  | P (i : Nat) (t : PT)
  | S (i : Nat) (t : PT)
  | B (i j : Nat) (t1 t2 : PT)
def chkT1 (md : Region.Mode) (ops : Array Oper) : Nat → PT → Array Bool → Bool
  | 0, .N, l => (Region.ready md ops l).isEmpty
  | n + 1, .P i t, l => (Region.ready md ops l).contains i && (Region.free md ops l i && chkT1 md ops n t (l.setIfInBounds i true))
  | n + 1, .S i t, l => decide (Region.ready md ops l = [i]) && (decide (i < ops.size) && chkT1 md ops n t (l.setIfInBounds i true))
  | n + 1, .B i j t1 t2, l => decide (Region.ready md ops l = [i, j]) && (decide (i < ops.size) && (decide (j < ops.size) && (chkT1 md ops n t1 (l.setIfInBounds i true) && chkT1 md ops n t2 (l.setIfInBounds j true))))
  | _, _, _ => false
def wpTs (P : Program) (ops : Array Oper) (C : World → Prop) (R : Act → World → Prop) : PT → Act → World → Prop
  | .N, a, w => R a w
  | .P i t, a, w => ∃ o v, ops[i]? = some o ∧ PureC P ops C o v a ∧ QHid (wpTs P ops C R t (a.put o.dst v) w)
  | .S i t, a, w => wpList P ops (QN fun a' w' => C w' ∧ QHid (wpTs P ops C R t a' w')) (opsI ops [i]) a w
  | .B i j t1 t2, a, w => wpList P ops (QN fun a' w' => C w' ∧ QHid (wpTs P ops C R t1 a' w')) (opsI ops [i]) a w ∧ wpList P ops (QN fun a' w' => C w' ∧ QHid (wpTs P ops C R t2 a' w')) (opsI ops [j]) a w
theorem wpAnyC_one {i : Nat} {K : Act → World → Prop} {a : Act} {w : World} (hi : i < ops.size) (h : wpList P ops (QN K) (opsI ops [i]) a w) : wpOp P ops (QN R) i K a w := by
  have ho : ops[i]? = some ops[i] := Array.getElem?_eq_getElem hi
  have e1 : opsI ops [i] = [ops[i]] := by unfold opsI; rw [List.filterMap_cons, ho]; rfl
  rw [e1] at h
  exact wpOp_of_list ho h
theorem wpAnyC_pt (hs : Region.noSelect ops = true) : ∀ (n : Nat) (t : PT) (listed : Array Bool) (a : Act) (w : World), chkT1 md ops n t listed = true → C w → wpTs P ops C R t a w → wpAnyC P md ops C R n listed a w
  | 0, .N, listed, a, w, hB, _, h => ⟨by simpa [chkT1] using hB, h⟩
  | 0, .P _ _, _, _, _, hB, _, _ => by simp [chkT1] at hB
  | 0, .S _ _, _, _, _, hB, _, _ => by simp [chkT1] at hB
  | 0, .B _ _ _ _, _, _, _, hB, _, _ => by simp [chkT1] at hB
  | n + 1, .N, _, _, _, hB, _, _ => by simp [chkT1] at hB
  | n + 1, .P i t, listed, a, w, hB, hc, ⟨o, v, ho, hv, h⟩ => by
    simp only [chkT1, Bool.and_eq_true] at hB
    obtain ⟨hr, hf, hB'⟩ := hB
    exact wpAnyC_pure ho (Region.noSelect_spec hs) n listed a w (Region.free_spec ho hf) (by simpa using hr) hv hc (wpAnyC_pt hs n t _ _ _ hB' hc h.out)
  | n + 1, .S i t, listed, a, w, hB, hc, h => by
    simp only [chkT1, Bool.and_eq_true, decide_eq_true_eq] at hB
    obtain ⟨hr, hi, hB'⟩ := hB
    refine ⟨fun h0 => (by rw [hr] at h0; cases h0), fun j hj => ?_⟩
    rw [hr] at hj
    obtain rfl : j = i := by simpa using hj
    exact wpOp_mono (fun a' w' h2 => ⟨h2.1, wpAnyC_pt hs n t _ _ _ hB' h2.1 h2.2.out⟩) (wpAnyC_one hi h)
  | n + 1, .B i j t1 t2, listed, a, w, hB, hc, h => by
    simp only [chkT1, Bool.and_eq_true, decide_eq_true_eq] at hB
    obtain ⟨hr, hi, hj, hB1, hB2⟩ := hB
    refine ⟨fun h0 => (by rw [hr] at h0; cases h0), fun k hk => ?_⟩
    rw [hr] at hk
    rcases List.mem_cons.1 hk with rfl | hk
    · exact wpOp_mono (fun a' w' h2 => ⟨h2.1, wpAnyC_pt hs n t1 _ _ _ hB1 h2.1 h2.2.out⟩) (wpAnyC_one hi h.1)
    · obtain rfl := List.mem_singleton.1 hk
      exact wpOp_mono (fun a' w' h2 => ⟨h2.1, wpAnyC_pt hs n t2 _ _ _ hB2 h2.1 h2.2.out⟩) (wpAnyC_one hj h.2)
def chkT (md : Region.Mode) (ops : Array Oper) (t : PT) : Bool := Region.noSelect ops && chkT1 md ops ops.size t (Array.replicate ops.size false)
theorem wp_region_pht {id : Nat} {Q : Exit → Act → World → Prop} {a : Act} {w : World} {l : List Oper} (C : World → Prop) (t : PT) (hm : P.follows .mixedOrders = true) (hB : chkT .any l.toArray t = true) (hC : C w.drew)
    (h : QHid (wpTs P l.toArray C (Q .normal) t a w.drew)) : (Code.region id l.toArray true).wp P Q a w := by
  unfold chkT at hB
  simp only [Bool.and_eq_true] at hB
  obtain ⟨k1, k3⟩ := hB
  refine wp_region_any hm ?_
  refine wpAny_exits (R := Q .normal) (fun a w h => h) _ _ _ _ ?_
  exact wpAny_of_C _ _ _ _ (wpAnyC_pt k1 _ t _ a _ k3 hC h.out)
/-! ### steps -/
variable {t t1 t2 : PT} {a : Act} {w : World}
theorem wpTs_N (h : R a w) : QHid (wpTs P ops C R .N a w) := ⟨h⟩
theorem wpTs_P {i : Nat} {o : Oper} (ho : ops[i]? = some o) (hw : Wtd ops o a) (h : ∀ K : Act → Prop, (∀ a, QHid (wpTs P ops C R t a w) → K a) → ∃ v, (∀ W, C W → (execOp a.eval o).run P W = .ok (.value v) W) ∧ K (a.put o.dst v)) : QHid (wpTs P ops C R (.P i t) a w) := by
  obtain ⟨v, h1, h2⟩ := h (fun a => QHid (wpTs P ops C R t a w)) (fun _ h => h)
  exact ⟨o, v, ho, .inl ⟨hw, h1⟩, h2⟩
theorem wpTs_UK {i : Nat} {o : Oper} (ho : ops[i]? = some o) (hw : Region.wanted o (yielded ops a.tmps) = false)
    (h : ∀ K : Act → Prop, (∀ a, QHid (wpTs P ops C R t a w) → K a) → K (a.put o.dst undef)) : QHid (wpTs P ops C R (.P i t) a w) :=
  ⟨o, undef, ho, .inr ⟨hw, rfl⟩, h _ fun _ h => h⟩
theorem wpTs_S {i : Nat} {l : List Oper} (hl : opsI ops [i] = l) (h : ∀ Q' : Exit → Act → World → Prop, (∀ a' w', C w' → QHid (wpTs P ops C R t a' w') → Q' .normal a' w') → (LetsOut Q' → False) → wpList P ops Q' l a w) : QHid (wpTs P ops C R (.S i t) a w) := by
  have := h (QN fun a' w' => C w' ∧ QHid (wpTs P ops C R t a' w')) (fun _ _ h h' => ⟨h, h'⟩) QN_out
  rw [← hl] at this
  exact ⟨this⟩
theorem wpTs_B {i j : Nat} {l1 l2 : List Oper} (hl1 : opsI ops [i] = l1) (hl2 : opsI ops [j] = l2)
    (h1 : ∀ Q' : Exit → Act → World → Prop, (∀ a' w', C w' → QHid (wpTs P ops C R t1 a' w') → Q' .normal a' w') → (LetsOut Q' → False) → wpList P ops Q' l1 a w)
    (h2 : ∀ Q' : Exit → Act → World → Prop, (∀ a' w', C w' → QHid (wpTs P ops C R t2 a' w') → Q' .normal a' w') → (LetsOut Q' → False) → wpList P ops Q' l2 a w) : QHid (wpTs P ops C R (.B i j t1 t2) a w) := by
  have g1 := h1 (QN fun a' w' => C w' ∧ QHid (wpTs P ops C R t1 a' w')) (fun _ _ h h' => ⟨h, h'⟩) QN_out
  have g2 := h2 (QN fun a' w' => C w' ∧ QHid (wpTs P ops C R t2 a' w')) (fun _ _ h h' => ⟨h, h'⟩) QN_out
  rw [← hl1] at g1
  rw [← hl2] at g2
  exact ⟨⟨g1, g2⟩⟩
end
end Go.Proofs.YtekfgkeimlidhaaGreatDoor
