import Derived.Test.YtekfgkeimlidhaaGreatDoorStillIn
import Derived.Lib.QuietBelow
import Derived.Lib.Hide
import Derived.StillTail
/- a region that draws its order, in a fence that lets every function in; its callees may lay blocks -/
set_option linter.all false
set_option maxRecDepth 100000
namespace Go.Proofs.YtekfgkeimlidhaaGreatDoor
open Go.RowKit Go.Sort
structure QHid (p : Prop) : Prop where
  out : p
section
variable {P : Program} {ops : Array Oper} {md : Region.Mode} {F : Fence} {m : Nat} {C : World → Prop}
theorem wpOpIn_of_qOp (hF : Open F) {i : Nat} {a : Act} {K : Act → Prop} {K' : Act → World → Prop} {Q' : Exit → Act → World → Prop} {w : World} (hdef : ∀ o, ops[i]? = some o → ∀ c, o.op ≠ .defer c)
    (hC : C w) (h : ∀ a w', C w' → K a → K' a w') (hh : qOp P ops C i K a) : wpOpIn F m P ops Q' i K' a w := by
  unfold qOp at hh
  unfold wpOpIn
  split
  · rename_i ho; simp only [ho] at hh; exact h _ _ hC hh
  · rename_i o ho
    simp only [ho] at hh
    split
    · rename_i hw
      simp only [hw, if_true] at hh
      unfold Oper.wpIn
      refine ⟨fun f _ => hF.fn f, ?_⟩
      rw [Oper.semAt_plain F _ _ (hdef o ho)]
      obtain ⟨v, h1, h2⟩ := hh
      have h3 := h1 w hC
      unfold Oper.quietAt at h3
      generalize (execOp a.eval o).run P w = r at *
      cases r with
      | ok x w' =>
        cases x <;> simp only [Oper.quietUpon] at h3
        case value u => obtain ⟨rfl, rfl⟩ := h3; exact h _ _ hC h2
        case skip => obtain ⟨rfl, rfl⟩ := h3; exact h _ _ hC h2
        case enter f args =>
          obtain ⟨rfl, hc⟩ := h3
          refine ⟨fun hd => (by rw [hF.depth] at hd; cases hd), (hF.calls hc).mono ?_⟩
          rintro e w'' ⟨rfl, hw''⟩
          exact h _ _ hw'' h2
      | halt x w' => simp only [Oper.quietUpon] at h3
    · rename_i hw
      simp only [hw] at hh
      exact ⟨fun f _ => hF.fn f, h _ _ hC hh⟩
theorem wpAnyIn_of_quiet (hF : Open F) (hdef : ∀ (i : Nat) (o : Oper), ops[i]? = some o → ∀ c, o.op ≠ .defer c) {Q : Act → Prop} {Q' : Exit → Act → World → Prop} (hQ : ∀ a w, C w → Q a → Q' .normal a w) :
    ∀ (fuel : Nat) (listed : Array Bool) (a : Act) (w : World), C w → wpAnyQ P md ops C Q fuel listed a → wpAnyIn F m P md ops Q' fuel listed a w
  | 0, _, _, _, hw, h => ⟨h.1, hQ _ _ hw h.2⟩
  | fuel + 1, _, _, _, hw, h => ⟨fun h0 => hQ _ _ hw (h.1 h0), fun i hi => wpOpIn_of_qOp hF (hdef i) hw (fun a' w' hw' => wpAnyIn_of_quiet hF hdef hQ fuel _ a' w' hw') (h.2 i hi)⟩
theorem wpIn_region_quiet_open (hF : Open F) {id : Nat} {Q : Exit → Act → World → Prop} {a : Act} {w : World} {l : List Oper} (hm : P.follows .mixedOrders = true) (hB : Region.lexB .any l.toArray = true) (hd : noDefer l = true)
    (h : wpQuiet P l.toArray (fun w' => ∃ p : Regrown, w' = grow (redrawn w p.d) p.os) (fun a' => ∀ w', (∃ p : Regrown, w' = grow (redrawn w p.d) p.os) → Q .normal a' w') l a) : (Code.region id l.toArray true).wpIn F m P Q a w := by
  simp only [Region.lexB, Bool.and_eq_true] at hB
  refine wpIn_region_any hm (wpAnyIn_of_quiet hF (noDefer_spec hd) (C := fun w' => ∃ p : Regrown, w' = grow (redrawn w p.d) p.os) (Q := fun a' => ∀ w', (∃ p : Regrown, w' = grow (redrawn w p.d) p.os) → Q .normal a' w') (fun _ w' hw' h => h w' hw') _ _ _ _ ⟨⟨w.drawn + 1, #[]⟩, by rw [grow_empty]; rfl⟩ ?_)
  have := wpAnyQ_lex (C := fun w' => ∃ p : Regrown, w' = grow (redrawn w p.d) p.os) (md := .any) hB.1 l 0 (Array.replicate l.toArray.size false) a (by simp) (by simpa using hB.2) h
  simpa using this
/-- one operation at a time, the goal behind a structure (nothing looks into it) -/
theorem wpQH_step {Q : Act → Prop} {a : Act} {o : Oper} {rest : List Oper}
    (h : ∀ K : Act → Prop, (∀ a, QHid (wpQuiet P ops C Q rest a) → K a) → if Region.wanted o (yielded ops a.tmps) then o.quiet P a C K else K (a.put o.dst undef)) : QHid (wpQuiet P ops C Q (o :: rest) a) :=
  QHid.mk (wpQuiet_step fun K hK => h K fun a hh => hK a hh.out)
theorem wpQH_nil {Q : Act → Prop} {a : Act} (h : Q a) : QHid (wpQuiet P ops C Q [] a) := QHid.mk (wpQuiet_nil h)
theorem wpIn_region_quiet_openH (hF : Open F) {id : Nat} {Q : Exit → Act → World → Prop} {a : Act} {w : World} {l : List Oper} (hm : P.follows .mixedOrders = true) (hB : Region.lexB .any l.toArray = true) (hd : noDefer l = true)
    (h : QHid (wpQuiet P l.toArray (fun w' => ∃ p : Regrown, w' = grow (redrawn w p.d) p.os) (fun a' => ∀ w', (∃ p : Regrown, w' = grow (redrawn w p.d) p.os) → Q .normal a' w') l a)) : (Code.region id l.toArray true).wpIn F m P Q a w :=
  wpIn_region_quiet_open hF hm hB hd h.out
theorem wp_region_quiet_belowH {id : Nat} {Q : Exit → Act → World → Prop} {a : Act} {w : World} {l : List Oper} (hm : P.follows .mixedOrders = true) (hB : Region.lexB .any l.toArray = true)
    (h : QHid (wpQuiet P l.toArray (fun w' => ∃ p : Regrown, w' = grow (redrawn w p.d) p.os) (fun a' => ∀ w', (∃ p : Regrown, w' = grow (redrawn w p.d) p.os) → Q .normal a' w') l a)) : (Code.region id l.toArray true).wp P Q a w :=
  wp_region_quiet_below hm hB h.out
end
end Go.Proofs.YtekfgkeimlidhaaGreatDoor
/- a region that draws its order: a head that is quiet (its callees may lay blocks), and a tail in a chain behind it -/
set_option linter.all false
set_option maxRecDepth 100000
namespace Go.Proofs.YtekfgkeimlidhaaGreatDoor
open Go.RowKit Go.Sort
section
variable {P : Program} {ops : Array Oper} {md : Region.Mode} {C : World → Prop}
def wpAnyLQ (P : Program) (md : Region.Mode) (ops : Array Oper) (C : World → Prop) (n : Nat) (L : Array Bool → Act → Prop) : Nat → Array Bool → Act → Prop
  | 0, listed, a => L listed a
  | f + 1, listed, a => Region.ready md ops listed ≠ [] ∧ ∀ i ∈ Region.ready md ops listed, i < n ∧ qOp P ops C i (wpAnyLQ P md ops C n L f (listed.setIfInBounds i true)) a
theorem wpAny_of_headQ {n g : Nat} {L : Array Bool → Act → Prop} {Q' : Exit → Act → World → Prop} (hL : ∀ listed a w, C w → L listed a → wpAny P md ops Q' g listed a w) :
    ∀ (f : Nat) (listed : Array Bool) (a : Act) (w : World), C w → wpAnyLQ P md ops C n L f listed a → wpAny P md ops Q' (f + g) listed a w
  | 0, listed, a, w, hw, h => by rw [Nat.zero_add]; exact hL _ _ _ hw h
  | f + 1, listed, a, w, hw, h => by
    rw [show f + 1 + g = (f + g) + 1 by omega]
    exact ⟨fun h0 => absurd h0 h.1, fun i hi => wpOp_of_qOp hw (fun a' w' hw' h' => wpAny_of_headQ hL f _ a' w' hw' h') (h.2 i hi).2⟩
theorem wpAnyLQ_first {n i : Nat} {oi : Oper} {v : Value} {L : Array Bool → Act → Prop} (hi : ops[i]? = some oi) (hsel : ∀ (j : Nat) (o : Oper) cs b, ops[j]? = some o → o.op ≠ .select cs b)
    (hs : Region.sinkB md ops n = true) (hc : Region.chainB md ops n = true) (hn : n < ops.size) (hin : i < n)
    (hdone : ∀ listed a, L listed a → ∀ j ∈ Region.ready md ops listed, n ≤ j) :
    ∀ (f : Nat) (listed : Array Bool) (a : Act), HeadInv md ops n listed →
      (∀ j oj, ops[j]? = some oj → j ≠ i → listed.getD j true = false → (∀ e ∈ oj.after, Region.binds md e = true → e.on ≠ i) → oi.apart ops oj = true) →
      i ∈ Region.ready md ops listed → YieldsIn P ops C oi v a →
      wpAnyLQ P md ops C n L f (listed.setIfInBounds i true) (a.put oi.dst v) → wpAnyLQ P md ops C n L (f + 1) listed a := by
  intro f
  induction f with
  | zero =>
    intro listed a inv _ hr hy H
    have hun := (mem_ready.1 hr).1
    refine ⟨fun h => (by rw [h] at hr; cases hr), fun j hj => ?_⟩
    have hjn : j < n := by
      rcases Nat.lt_or_ge j n with h | h
      · exact h
      · exact absurd hj (tail_waits hs hc hn inv _ i rfl hin hun j h)
    refine ⟨hjn, ?_⟩
    by_cases hji : j = i
    · subst hji; exact hy.qOp hi H
    · have := hdone _ _ H j (ready_mono hj hji)
      omega
  | succ f ih =>
    intro listed a inv hfree hr hy H
    have hun := (mem_ready.1 hr).1
    refine ⟨fun h => (by rw [h] at hr; cases hr), fun j hj => ?_⟩
    have hjn : j < n := by
      rcases Nat.lt_or_ge j n with h | h
      · exact h
      · exact absurd hj (tail_waits hs hc hn inv _ i rfl hin hun j h)
    refine ⟨hjn, ?_⟩
    by_cases hji : j = i
    · subst hji; exact hy.qOp hi H
    · have h1 := (H.2 j (ready_mono hj hji)).2
      obtain ⟨hjun, oj, hoj, hall⟩ := mem_ready.1 hj
      have hnot : ∀ e ∈ oj.after, Region.binds md e = true → e.on ≠ i := fun e he hb heq => by
        have h1 := hall e he hb
        rw [heq, getD_both hun] at h1
        cases h1
      have h2 := qOp_put hoj (hfree j oj hoj hji hjun hnot) (fun cs b => hsel i oi cs b hi) (fun cs b => hsel j oj cs b hoj) hy h1
      have hfree' : ∀ k ok, ops[k]? = some ok → k ≠ i → (listed.setIfInBounds j true).getD k true = false →
          (∀ e ∈ ok.after, Region.binds md e = true → e.on ≠ i) → oi.apart ops ok = true := fun k ok hk hki hun hno => by
        refine hfree k ok hk hki ?_ hno
        by_cases hjk : j = k
        · subst hjk; exact hjun
        · rw [getD_set_ne true hjk] at hun; exact hun
      refine qOp_mono (fun a' h3 => ih (listed.setIfInBounds j true) a' (inv.set hj hjn) hfree' (ready_mono hr (Ne.symm hji)) h3.1 ?_) h2
      rw [Array.setIfInBounds_comm _ _ hji]
      exact h3.2
theorem wpAnyLQ_lex {n g : Nat} {Lq : Act → Prop} (hsel : Region.noSelect ops = true) (hs : Region.sinkB md ops n = true) (hc : Region.chainB md ops n = true) (hn : n < ops.size) :
    ∀ (l : List Oper) (k : Nat) (listed : Array Bool) (a : Act), (∀ j, j < l.length → l[j]? = ops[k + j]?) → k + l.length = n → HeadInv md ops n listed →
    Region.lexHead md ops g l.length k listed = true → wpQuiet P ops C Lq l a →
    wpAnyLQ P md ops C n (fun listed' a' => Region.seqB md ops g n listed' = true ∧ Lq a') l.length listed a
  | [], k, listed, a, _, hk, _, hB, h => by
    have : k = n := by simpa using hk
    subst this
    exact ⟨by simpa [Region.lexHead] using hB, h⟩
  | o :: l, k, listed, a, hl, hk, inv, hB, h => by
    have h0 : ops[k]? = some o := by simpa using (hl 0 (by simp)).symm
    simp only [List.length_cons, Region.lexHead, Bool.and_eq_true] at hB
    obtain ⟨⟨hr, hf⟩, hB'⟩ := hB
    have hkn : k < n := by simp only [List.length_cons] at hk; omega
    have hr' : k ∈ Region.ready md ops listed := by simpa using hr
    have hst : qOp P ops C k (wpQuiet P ops C Lq l) a := by unfold qOp; simp only [h0]; exact h
    obtain ⟨v, hy, hK⟩ := yieldsIn_of_qOp h0 hst
    exact wpAnyLQ_first h0 (Region.noSelect_spec hsel) hs hc hn hkn (fun listed' a' hL => seqB_ready hL.1) l.length listed a inv (Region.free_spec h0 hf) hr' hy
      (wpAnyLQ_lex hsel hs hc hn l (k + 1) _ _ (fun j hj => by have := hl (j + 1) (by simp; omega); simpa [Nat.add_assoc, Nat.add_comm 1 j] using this) (by simp only [List.length_cons] at hk; omega) (inv.set hr' hkn) hB' hK)
theorem wp_region_quiet_tail {id : Nat} {Q : Exit → Act → World → Prop} {a : Act} {w : World} {l : List Oper} (n : Nat) (hm : P.follows .mixedOrders = true) (hB : Region.lexTailB .any l.toArray n = true)
    (h : QHid (wpQuiet P l.toArray (fun w' => ∃ p : Regrown, w' = grow (redrawn w p.d) p.os) (fun a' => ∀ w', (∃ p : Regrown, w' = grow (redrawn w p.d) p.os) → wpList P l.toArray Q (l.drop n) a' w') (l.take n) a)) : (Code.region id l.toArray true).wp P Q a w := by
  simp only [Region.lexTailB, Bool.and_eq_true, decide_eq_true_eq] at hB
  obtain ⟨⟨⟨⟨hsel, hn⟩, hs⟩, hc⟩, hlex⟩ := hB
  have hn' : n < l.length := by simpa using hn
  have htl : (l.take n).length = n := by simp; omega
  have hdl : (l.drop n).length = l.toArray.size - n := by simp
  have inv0 : HeadInv .any l.toArray n (Array.replicate l.toArray.size false) :=
    ⟨by simp, fun j oj _ hl => (by rw [getD_replicate_false] at hl; cases hl), fun t _ ht => getD_in (by simpa using ht) (getD_replicate_false _ _)⟩
  have H := wpAnyLQ_lex (md := .any) (g := l.toArray.size - n) hsel hs hc hn (l.take n) 0 _ a (fun j hj => by
    have hj' : j < n := by rw [htl] at hj; exact hj
    simp [hj']) (by simpa using htl) inv0 (by rw [htl]; exact hlex) h.out
  refine wp_region_any hm ?_
  have := wpAny_of_headQ (Q' := Q) (g := l.toArray.size - n) (C := fun w' => ∃ p : Regrown, w' = grow (redrawn w p.d) p.os) (fun listed a' w' hw' hL => by
    have := wpAny_of_seq (md := .any) (Q' := Q) (l.drop n) n listed a' w' (fun j => by simp [List.getElem?_drop]) (by rw [hdl]; exact hL.1) (hL.2 w' hw')
    rwa [hdl] at this) _ _ _ { w with drawn := w.drawn + 1 } ⟨⟨w.drawn + 1, #[]⟩, by rw [grow_empty]; rfl⟩ H
  rw [htl, show n + (l.toArray.size - n) = l.toArray.size by omega] at this
  exact this
end
end Go.Proofs.YtekfgkeimlidhaaGreatDoor
/- a region that draws its order, by a schedule: what asks no world first (P), a block that is quiet (H), what alone is ready (S) -/
set_option linter.all false
set_option maxRecDepth 100000
namespace Go.Proofs.YtekfgkeimlidhaaGreatDoor
open Go.RowKit Go.Sort
section
variable {P : Program} {ops : Array Oper} {md : Region.Mode} {C : World → Prop} {R : Act → World → Prop}
/-- no way out but the end -/
def QN (R : Act → World → Prop) : Exit → Act → World → Prop
  | .normal, a, w => R a w
  | _, _, _ => False
theorem QN_out (h : LetsOut (QN R)) : False := by obtain ⟨a, w, h⟩ := h; exact h
/-- whatever the world, the operation yields the value -/
def PureIn (P : Program) (ops : Array Oper) (o : Oper) (v : Value) (a : Act) : Prop := Region.wanted o (yielded ops a.tmps) = true ∧ ∀ W, (execOp a.eval o).run P W = .ok (.value v) W
theorem wpOp_put {i j : Nat} {oi oj : Oper} {v : Value} (hj : ops[j]? = some oj) (hap : oi.apart ops oj = true)
    (hsi : ∀ cs b, oi.op ≠ .select cs b) (hsj : ∀ cs b, oj.op ≠ .select cs b) {K : Act → World → Prop} {a : Act} {w : World}
    (hy : PureIn P ops oi v a) (h : wpOp P ops (QN R) j K (a.put oi.dst v) w) :
    wpOp P ops (QN R) j (fun a' w' => PureIn P ops oi v a' ∧ K (a'.put oi.dst v) w') a w := by
  obtain ⟨h1, h2, h3⟩ := Oper.apart_spec hap
  have keep : ∀ (a : Act), PureIn P ops oi v a → ∀ u, PureIn P ops oi v (a.put oj.dst u) := fun a hy u =>
    ⟨(wanted_put oi a oj.dst u h3).trans hy.1, fun W => by rw [execOp_put oi hsi a oj.dst u h3]; exact hy.2 W⟩
  unfold wpOp at *
  simp only [hj] at *
  rw [wanted_put oj a oi.dst v h1] at h
  split
  · rename_i hw
    simp only [hw, if_true] at h
    rcases h with h | h
    · left
      unfold Oper.wp at *
      rw [execOp_put oj hsj a oi.dst v h1] at h
      generalize (execOp a.eval oj).run P w = r at *
      cases r with
      | ok x w' =>
        cases x <;> simp only [Oper.upon] at h ⊢
        case value u => exact ⟨keep a hy u, by rw [← Act.put_comm a v u h2]; exact h⟩
        case skip => exact ⟨keep a hy _, by rw [← Act.put_comm a v undef h2]; exact h⟩
        case defer d =>
          refine ⟨?_, ?_⟩
          · have := keep a hy undef
            cases hd : oj.dst <;> simp only [hd, Act.put] at this ⊢ <;> exact this
          · have h5 : Act.put ({ Act.put a oi.dst v with defers := d :: (Act.put a oi.dst v).defers } : Act) oj.dst undef = Act.put (Act.put ({ a with defers := d :: a.defers } : Act) oj.dst undef) oi.dst v := by
              have := Act.put_comm ({ a with defers := d :: a.defers } : Act) v undef h2
              rw [← this]
              cases hi : oi.dst <;> rfl
            rw [← h5]; exact h
        case enter f args =>
          refine h.mono fun e w'' he => ?_
          cases e with
          | returned u => exact ⟨keep a hy u, by rw [← Act.put_comm a v u h2]; exact he⟩
          | panicked c => exact he
          | outgrown => exact absurd he QN_out
        case row row args => exact h.mono fun u w'' he => ⟨keep a hy u, by rw [← Act.put_comm a v u h2]; exact he⟩
      | halt x w' => cases x <;> simp only [Oper.upon] at h ⊢ <;> exact h
    · exact absurd h.2 QN_out
  · rename_i hw
    simp only [hw] at h
    exact ⟨keep a hy _, by rw [← Act.put_comm a v undef h2]; exact h⟩
theorem wpAny_pure {i : Nat} {oi : Oper} {v : Value} (hi : ops[i]? = some oi) (hsel : ∀ (j : Nat) (o : Oper) cs b, ops[j]? = some o → o.op ≠ .select cs b) :
    ∀ (fuel : Nat) (listed : Array Bool) (a : Act) (w : World),
      (∀ j oj, ops[j]? = some oj → j ≠ i → listed.getD j true = false → (∀ e ∈ oj.after, Region.binds md e = true → e.on ≠ i) → oi.apart ops oj = true) →
      i ∈ Region.ready md ops listed → PureIn P ops oi v a →
      wpAny P md ops (QN R) fuel (listed.setIfInBounds i true) (a.put oi.dst v) w → wpAny P md ops (QN R) (fuel + 1) listed a w := by
  have self : ∀ {K : Act → World → Prop} {a : Act} {w : World}, PureIn P ops oi v a → K (a.put oi.dst v) w → wpOp P ops (QN R) i K a w := by
    intro K a w hy h
    unfold wpOp
    simp only [hi, hy.1, if_true]
    left
    unfold Oper.wp
    rw [hy.2 w]; exact h
  intro fuel
  induction fuel with
  | zero =>
    intro listed a w _ hr hy H
    refine ⟨fun h => (by rw [h] at hr; cases hr), fun j hj => ?_⟩
    by_cases hji : j = i
    · subst hji; exact self hy H
    · have := ready_mono hj hji
      rw [H.1] at this
      cases this
  | succ fuel ih =>
    intro listed a w hfree hr hy H
    refine ⟨fun h => (by rw [h] at hr; cases hr), fun j hj => ?_⟩
    by_cases hji : j = i
    · subst hji; exact self hy H
    · have h1 := H.2 j (ready_mono hj hji)
      obtain ⟨hjun, oj, hoj, hall⟩ := mem_ready.1 hj
      have hun := (mem_ready.1 hr).1
      have hnot : ∀ e ∈ oj.after, Region.binds md e = true → e.on ≠ i := fun e he hb heq => by
        have h1 := hall e he hb
        rw [heq, getD_both hun] at h1
        cases h1
      have h2 := wpOp_put (i := i) hoj (hfree j oj hoj hji hjun hnot) (fun cs b => hsel i oi cs b hi) (fun cs b => hsel j oj cs b hoj) hy h1
      have hfree' : ∀ k ok, ops[k]? = some ok → k ≠ i → (listed.setIfInBounds j true).getD k true = false →
          (∀ e ∈ ok.after, Region.binds md e = true → e.on ≠ i) → oi.apart ops ok = true := fun k ok hk hki hun hno => by
        refine hfree k ok hk hki ?_ hno
        by_cases hjk : j = k
        · subst hjk; exact hjun
        · rw [getD_set_ne true hjk] at hun; exact hun
      refine wpOp_mono (fun a' w' h3 => ih (listed.setIfInBounds j true) a' w' hfree' (ready_mono hr (Ne.symm hji)) h3.1 ?_) h2
      rw [Array.setIfInBounds_comm _ _ hji]
      exact h3.2
/-! ### the schedule -/
def lst (listed : Array Bool) : List Nat → Array Bool
  | [] => listed
  | i :: is => lst (listed.setIfInBounds i true) is
/-- each is ready, and apart from what does not wait for it -/
def lexI (md : Region.Mode) (ops : Array Oper) : List Nat → Array Bool → Bool
  | [], _ => true
  | i :: is, listed => (Region.ready md ops listed).contains i && Region.free md ops listed i && lexI md ops is (listed.setIfInBounds i true)
/-- the operations by their numbers -/
def opsI (ops : Array Oper) (is : List Nat) : List Oper := is.filterMap fun i => ops[i]?
/-- the walk of what asks no world -/
def wpPure (P : Program) (ops : Array Oper) (Q : Act → Prop) : List Nat → Act → Prop
  | [], a => Q a
  | i :: is, a => ∃ o, ops[i]? = some o ∧ o.guard = none ∧ ∃ v, (∀ W, (execOp a.eval o).run P W = .ok (.value v) W) ∧ wpPure P ops Q is (a.put o.dst v)
theorem wpAny_pures (hs : Region.noSelect ops = true) {g : Nat} {w : World} {Q : Act → Prop} : ∀ (is : List Nat) (listed : Array Bool) (a : Act), lexI md ops is listed = true → wpPure P ops Q is a →
    (∀ a', Q a' → wpAny P md ops (QN R) g (lst listed is) a' w) → wpAny P md ops (QN R) (is.length + g) listed a w
  | [], listed, a, _, h, hk => by rw [List.length_nil, Nat.zero_add]; exact hk a h
  | i :: is, listed, a, hB, ⟨o, ho, hg, v, hv, h⟩, hk => by
    simp only [lexI, Bool.and_eq_true] at hB
    obtain ⟨⟨hr, hf⟩, hB'⟩ := hB
    rw [List.length_cons, show is.length + 1 + g = (is.length + g) + 1 by omega]
    have hw : Region.wanted o (yielded ops a.tmps) = true := by unfold Region.wanted; rw [hg]
    exact wpAny_pure ho (Region.noSelect_spec hs) (is.length + g) listed a w (Region.free_spec ho hf) (by simpa using hr) ⟨hw, hv⟩ (wpAny_pures hs is _ _ hB' h hk)
/-- until the block is done its own alone are ready -/
def onlyB (md : Region.Mode) (ops : Array Oper) (H : List Nat) : Nat → Array Bool → Bool
  | 0, _ => true
  | f + 1, listed => !(Region.ready md ops listed).isEmpty && (Region.ready md ops listed).all fun i => H.contains i && onlyB md ops H f (listed.setIfInBounds i true)
def wpAnyH (P : Program) (md : Region.Mode) (ops : Array Oper) (C : World → Prop) (L : Array Bool → Act → Prop) : Nat → Array Bool → Act → Prop
  | 0, listed, a => L listed a
  | f + 1, listed, a => Region.ready md ops listed ≠ [] ∧ ∀ i ∈ Region.ready md ops listed, qOp P ops C i (wpAnyH P md ops C L f (listed.setIfInBounds i true)) a
theorem wpAny_of_H {g : Nat} {L : Array Bool → Act → Prop} {Q' : Exit → Act → World → Prop} (hL : ∀ listed a w, C w → L listed a → wpAny P md ops Q' g listed a w) :
    ∀ (f : Nat) (listed : Array Bool) (a : Act) (w : World), C w → wpAnyH P md ops C L f listed a → wpAny P md ops Q' (f + g) listed a w
  | 0, listed, a, w, hw, h => by rw [Nat.zero_add]; exact hL _ _ _ hw h
  | f + 1, listed, a, w, hw, h => by
    rw [show f + 1 + g = (f + g) + 1 by omega]
    exact ⟨fun h0 => absurd h0 h.1, fun i hi => wpOp_of_qOp hw (fun a' w' hw' h' => wpAny_of_H hL f _ a' w' hw' h') (h.2 i hi)⟩
theorem wpAnyH_first {H : List Nat} {i : Nat} {oi : Oper} {v : Value} {L : Array Bool → Act → Prop} (hi : ops[i]? = some oi) (hsel : ∀ (j : Nat) (o : Oper) cs b, ops[j]? = some o → o.op ≠ .select cs b)
    (hdone : ∀ listed a, L listed a → ∀ j ∈ Region.ready md ops listed, j ∉ H) :
    ∀ (f : Nat) (listed : Array Bool) (a : Act), onlyB md ops H (f + 1) listed = true →
      (∀ j oj, ops[j]? = some oj → j ≠ i → listed.getD j true = false → (∀ e ∈ oj.after, Region.binds md e = true → e.on ≠ i) → oi.apart ops oj = true) →
      i ∈ Region.ready md ops listed → YieldsIn P ops C oi v a →
      wpAnyH P md ops C L f (listed.setIfInBounds i true) (a.put oi.dst v) → wpAnyH P md ops C L (f + 1) listed a := by
  intro f
  induction f with
  | zero =>
    intro listed a hB _ hr hy H'
    refine ⟨fun h => (by rw [h] at hr; cases hr), fun j hj => ?_⟩
    by_cases hji : j = i
    · subst hji; exact hy.qOp hi H'
    · exfalso
      simp only [onlyB, Bool.and_eq_true, List.all_eq_true] at hB
      have := (hB.2 j hj).1
      exact hdone _ _ H' j (ready_mono hj hji) (by simpa using this)
  | succ f ih =>
    intro listed a hB hfree hr hy H'
    have hun := (mem_ready.1 hr).1
    refine ⟨fun h => (by rw [h] at hr; cases hr), fun j hj => ?_⟩
    by_cases hji : j = i
    · subst hji; exact hy.qOp hi H'
    · have h1 := H'.2 j (ready_mono hj hji)
      obtain ⟨hjun, oj, hoj, hall⟩ := mem_ready.1 hj
      have hnot : ∀ e ∈ oj.after, Region.binds md e = true → e.on ≠ i := fun e he hb heq => by
        have h1 := hall e he hb
        rw [heq, getD_both hun] at h1
        cases h1
      have h2 := qOp_put hoj (hfree j oj hoj hji hjun hnot) (fun cs b => hsel i oi cs b hi) (fun cs b => hsel j oj cs b hoj) hy h1
      have hfree' : ∀ k ok, ops[k]? = some ok → k ≠ i → (listed.setIfInBounds j true).getD k true = false →
          (∀ e ∈ ok.after, Region.binds md e = true → e.on ≠ i) → oi.apart ops ok = true := fun k ok hk hki hun hno => by
        refine hfree k ok hk hki ?_ hno
        by_cases hjk : j = k
        · subst hjk; exact hjun
        · rw [getD_set_ne true hjk] at hun; exact hun
      have hB2 : onlyB md ops H (f + 1) (listed.setIfInBounds j true) = true := by
        rw [onlyB, Bool.and_eq_true, List.all_eq_true] at hB
        have := hB.2 j hj
        rw [Bool.and_eq_true] at this
        exact this.2
      refine qOp_mono (fun a' h3 => ih (listed.setIfInBounds j true) a' hB2 hfree' (ready_mono hr (Ne.symm hji)) h3.1 ?_) h2
      rw [Array.setIfInBounds_comm _ _ hji]
      exact h3.2
/-- the walk of a quiet block -/
def wpQI (P : Program) (ops : Array Oper) (C : World → Prop) (Q : Act → Prop) : List Nat → Act → Prop
  | [], a => Q a
  | i :: is, a => ∃ o, ops[i]? = some o ∧ o.guard = none ∧ o.quiet P a C (wpQI P ops C Q is)
/-- behind the block none of it is ready -/
def outB (md : Region.Mode) (ops : Array Oper) (H : List Nat) (listed : Array Bool) : Bool := (Region.ready md ops listed).all fun i => !H.contains i
theorem wpAnyH_lex (hs : Region.noSelect ops = true) {H : List Nat} {Q : Act → Prop} : ∀ (is : List Nat) (listed : Array Bool) (a : Act), lexI md ops is listed = true → onlyB md ops H is.length listed = true → outB md ops H (lst listed is) = true →
    wpQI P ops C Q is a → wpAnyH P md ops C (fun listed' a' => outB md ops H listed' = true ∧ listed' = lst listed is ∧ Q a') is.length listed a
  | [], listed, a, _, _, ho, h => ⟨ho, rfl, h⟩
  | i :: is, listed, a, hB, hO, ho, ⟨o, hio, hg, hq⟩ => by
    simp only [lexI, Bool.and_eq_true] at hB
    obtain ⟨⟨hr, hf⟩, hB'⟩ := hB
    have hr' : i ∈ Region.ready md ops listed := by simpa using hr
    have hw : Region.wanted o (yielded ops a.tmps) = true := by unfold Region.wanted; rw [hg]
    have hst : qOp P ops C i (wpQI P ops C Q is) a := by unfold qOp; simp only [hio, hw, if_true]; exact hq
    obtain ⟨v, hy, hK⟩ := yieldsIn_of_qOp hio hst
    have hO2 : onlyB md ops H is.length (listed.setIfInBounds i true) = true := by
      have hO' := hO
      rw [List.length_cons, onlyB, Bool.and_eq_true, List.all_eq_true] at hO'
      have := hO'.2 i hr'
      rw [Bool.and_eq_true] at this
      exact this.2
    exact wpAnyH_first (H := H) hio (Region.noSelect_spec hs) (fun listed' a' hL j hj => by
      have := List.all_eq_true.1 hL.1 j hj
      simpa using this) is.length listed a hO (Region.free_spec hio hf) hr' hy (wpAnyH_lex hs is _ _ hB' hO2 ho hK)
theorem wpAny_quietBlock (hs : Region.noSelect ops = true) {g : Nat} {Q : Act → Prop} {Q' : Exit → Act → World → Prop} {w : World} (is : List Nat) (listed : Array Bool) (a : Act) (hB : (lexI md ops is listed && (onlyB md ops is is.length listed && outB md ops is (lst listed is))) = true)
    (hw : C w) (h : wpQI P ops C Q is a) (hk : ∀ a' w', C w' → Q a' → wpAny P md ops Q' g (lst listed is) a' w') : wpAny P md ops Q' (is.length + g) listed a w := by
  simp only [Bool.and_eq_true] at hB
  refine wpAny_of_H (L := fun listed' a' => outB md ops is listed' = true ∧ listed' = lst listed is ∧ Q a') (fun listed' a' w' hw' hL => ?_) is.length listed a w hw (wpAnyH_lex hs is listed a hB.1 hB.2.1 hB.2.2 h)
  rw [hL.2.1]; exact hk a' w' hw' hL.2.2
/-- what alone is ready -/
theorem wpAny_only {i g : Nat} {o : Oper} {listed : Array Bool} {a : Act} {w : World} {Q : Exit → Act → World → Prop} (hr : Region.ready md ops listed = [i]) (ho : ops[i]? = some o) (hg : o.guard = none) (h : o.wp P a w (wpAny P md ops Q g (listed.setIfInBounds i true)) Q) : wpAny P md ops Q (g + 1) listed a w := by
  refine ⟨fun h0 => (by rw [hr] at h0; cases h0), fun j hj => ?_⟩
  rw [hr] at hj
  obtain rfl : j = i := by simpa using hj
  have hw : Region.wanted o (yielded ops a.tmps) = true := by unfold Region.wanted; rw [hg]
  unfold wpOp
  simp only [ho, hw, if_true]
  exact .inl h
theorem wpAny_end {listed : Array Bool} {a : Act} {w : World} {Q : Exit → Act → World → Prop} (hr : Region.ready md ops listed = []) (h : Q .normal a w) : wpAny P md ops Q 0 listed a w := ⟨hr, h⟩
theorem wpAny_exits {Q : Exit → Act → World → Prop} (hQ : ∀ a w, R a w → Q .normal a w) : ∀ (fuel : Nat) (listed : Array Bool) (a : Act) (w : World), wpAny P md ops (QN R) fuel listed a w → wpAny P md ops Q fuel listed a w := by
  have stp : ∀ {o : Oper} {a : Act} {w : World} {K : Act → World → Prop}, o.wp P a w K (QN R) → o.wp P a w K Q := by
    intro o a w K h
    unfold Oper.wp at *
    generalize (execOp a.eval o).run P w = r at *
    cases r with
    | ok x w' =>
      cases x <;> simp only [Oper.upon] at h ⊢
      case value u => exact h
      case skip => exact h
      case defer d => exact h
      case enter f args =>
        refine h.mono fun e w'' he => ?_
        cases e with
        | returned u => exact he
        | panicked c => exact absurd he (fun h => h)
        | outgrown => exact absurd he QN_out
      case row row args => exact h
    | halt x w' => cases x <;> simp only [Oper.upon] at h ⊢ <;> exact absurd h (fun h => h)
  intro fuel
  induction fuel with
  | zero => intro listed a w h; exact ⟨h.1, hQ _ _ h.2⟩
  | succ fuel ih =>
    intro listed a w h
    refine ⟨fun h0 => hQ _ _ (h.1 h0), fun i hi => ?_⟩
    have h1 := wpOp_mono (fun a' w' => ih _ a' w') (h.2 i hi)
    unfold wpOp at h1 ⊢
    split
    · rename_i ho; simp only [ho] at h1; exact h1
    · rename_i o ho
      simp only [ho] at h1
      split
      · rename_i hw
        simp only [hw, if_true] at h1
        rcases h1 with h1 | h1
        · exact .inl (stp h1)
        · exact absurd h1.2 QN_out
      · rename_i hw; simp only [hw] at h1; exact h1
/-- what comes in a row -/
def wpSeqI (P : Program) (ops : Array Oper) (Q : Act → World → Prop) : List Nat → Act → World → Prop
  | [], a, w => Q a w
  | i :: is, a, w => ∃ o, ops[i]? = some o ∧ o.guard = none ∧ o.wp P a w (wpSeqI P ops Q is) (QN Q)
def seqI (md : Region.Mode) (ops : Array Oper) : List Nat → Array Bool → Bool
  | [], listed => (Region.ready md ops listed).isEmpty
  | i :: is, listed => decide (Region.ready md ops listed = [i]) && seqI md ops is (listed.setIfInBounds i true)
theorem wpAny_seqI {Q : Act → World → Prop} : ∀ (is : List Nat) (listed : Array Bool) (a : Act) (w : World), seqI md ops is listed = true → wpSeqI P ops Q is a w → wpAny P md ops (QN Q) is.length listed a w
  | [], listed, a, w, hB, h => ⟨by simpa [seqI] using hB, h⟩
  | i :: is, listed, a, w, hB, ⟨o, ho, hg, h⟩ => by
    simp only [seqI, Bool.and_eq_true, decide_eq_true_eq] at hB
    exact wpAny_only hB.1 ho hg (Oper.wp_mono (fun a' w' h' => wpAny_seqI is _ a' w' hB.2 h') h)
def chkPH (md : Region.Mode) (ops : Array Oper) (p1 h p2 s : List Nat) : Bool :=
  Region.noSelect ops && (decide (p1.length + (h.length + (p2.length + s.length)) = ops.size) && (lexI md ops p1 (Array.replicate ops.size false) &&
    ((lexI md ops h (lst (Array.replicate ops.size false) p1) && (onlyB md ops h h.length (lst (Array.replicate ops.size false) p1) && outB md ops h (lst (lst (Array.replicate ops.size false) p1) h))) &&
      (lexI md ops p2 (lst (lst (Array.replicate ops.size false) p1) h) && seqI md ops s (lst (lst (lst (Array.replicate ops.size false) p1) h) p2)))))
theorem wp_region_sched {id : Nat} {Q : Exit → Act → World → Prop} {a : Act} {w : World} {l : List Oper} (p1 h p2 s : List Nat) (hm : P.follows .mixedOrders = true) (hB : chkPH .any l.toArray p1 h p2 s = true)
    (hw : QHid (wpPure P l.toArray (fun a1 => QHid (wpQI P l.toArray (fun w' => ∃ p : Regrown, w' = grow (redrawn w p.d) p.os) (fun a2 => ∀ w', (∃ p : Regrown, w' = grow (redrawn w p.d) p.os) →
      QHid (wpPure P l.toArray (fun a3 => wpSeqI P l.toArray (Q .normal) s a3 w') p2 a2)) h a1)) p1 a)) : (Code.region id l.toArray true).wp P Q a w := by
  unfold chkPH at hB
  simp only [Bool.and_eq_true, decide_eq_true_eq] at hB
  obtain ⟨k1, k2, k3, k4, k5, k6⟩ := hB
  refine wp_region_any hm ?_
  refine wpAny_exits (R := Q .normal) (fun a w h => h) _ _ _ _ ?_
  rw [← k2] at k3 k4 k5 k6 ⊢
  refine wpAny_pures k1 p1 _ a k3 hw.out fun a1 h1 => ?_
  refine wpAny_quietBlock (C := fun w' => ∃ p : Regrown, w' = grow (redrawn w p.d) p.os) k1 h _ a1 (by simp only [Bool.and_eq_true]; exact k4) ⟨⟨w.drawn + 1, #[]⟩, by rw [grow_empty]; rfl⟩ h1.out fun a2 w' hw' h2 => ?_
  refine wpAny_pures k1 p2 _ a2 k5 (h2 w' hw').out fun a3 h3 => ?_
  exact wpAny_seqI s _ a3 w' k6 h3
theorem wpPH_step {Q : Act → Prop} {i : Nat} {is : List Nat} {a : Act} {o : Oper} (ho : ops[i]? = some o) (hg : o.guard = none)
    (h : ∀ K : Act → Prop, (∀ a, QHid (wpPure P ops Q is a) → K a) → ∃ v, (∀ W, (execOp a.eval o).run P W = .ok (.value v) W) ∧ K (a.put o.dst v)) : QHid (wpPure P ops Q (i :: is) a) := by
  obtain ⟨v, h1, h2⟩ := h (fun a => QHid (wpPure P ops Q is a)) (fun _ h => h)
  exact ⟨o, ho, hg, v, h1, h2.out⟩
theorem wpSI_step {Q : Act → World → Prop} {i : Nat} {is : List Nat} {a : Act} {w : World} {o : Oper} (ho : ops[i]? = some o) (hg : o.guard = none)
    (h : ∀ K : Act → World → Prop, (∀ a w, wpSeqI P ops Q is a w → K a w) → ∃ w', (execOp a.eval o).run P w = .ok .skip w' ∧ K (a.put o.dst undef) w') : wpSeqI P ops Q (i :: is) a w := by
  obtain ⟨w', h1, h2⟩ := h (fun a w => wpSeqI P ops Q is a w) (fun _ _ h => h)
  refine ⟨o, ho, hg, ?_⟩
  unfold Oper.wp
  rw [h1]; exact h2
theorem wpSI_stepV {Q : Act → World → Prop} {i : Nat} {is : List Nat} {a : Act} {w : World} {o : Oper} (ho : ops[i]? = some o) (hg : o.guard = none)
    (h : ∀ K : Act → World → Prop, (∀ a w, wpSeqI P ops Q is a w → K a w) → ∃ v, (execOp a.eval o).run P w = .ok (.value v) w ∧ K (a.put o.dst v) w) : wpSeqI P ops Q (i :: is) a w := by
  obtain ⟨v, h1, h2⟩ := h (fun a w => wpSeqI P ops Q is a w) (fun _ _ h => h)
  refine ⟨o, ho, hg, ?_⟩
  unfold Oper.wp
  rw [h1]; exact h2
theorem wpSI_nil {Q : Act → World → Prop} {a : Act} {w : World} (h : Q a w) : wpSeqI P ops Q [] a w := h
theorem wpPH_nil {Q : Act → Prop} {a : Act} (h : Q a) : QHid (wpPure P ops Q [] a) := ⟨h⟩
theorem wpQI_step {Q : Act → Prop} {i : Nat} {is : List Nat} {a : Act} {o : Oper} (ho : ops[i]? = some o) (hg : o.guard = none)
    (h : ∀ K : Act → Prop, (∀ a, QHid (wpQI P ops C Q is a) → K a) → o.quiet P a C K) : QHid (wpQI P ops C Q (i :: is) a) :=
  ⟨o, ho, hg, Oper.quiet_mono (fun a h => h.out) (h (fun a => QHid (wpQI P ops C Q is a)) (fun _ h => h))⟩
theorem wpQI_nil {Q : Act → Prop} {a : Act} (h : Q a) : QHid (wpQI P ops C Q [] a) := ⟨h⟩
end
end Go.Proofs.YtekfgkeimlidhaaGreatDoor
/- a region that draws its order, by phases: what asks no world (P), a block that is quiet (H), what alone is ready (S), a load beside what alone is ready (F) -/
set_option linter.all false
set_option maxRecDepth 100000
namespace Go.Proofs.YtekfgkeimlidhaaGreatDoor
open Go.RowKit Go.Sort
section
variable {P : Program} {ops : Array Oper} {md : Region.Mode} {R : Act → World → Prop}
/-- the operation is wanted -/
abbrev Wtd (ops : Array Oper) (o : Oper) (a : Act) : Prop := Region.wanted o (yielded ops a.tmps) = true
/-- a load that may come before another operation, or behind it -/
theorem wpOp_put_at {j : Nat} {oi oj : Oper} {v : Value} (hj : ops[j]? = some oj) (hap : oi.apart ops oj = true)
    (hsi : ∀ cs b, oi.op ≠ .select cs b) (hsj : ∀ cs b, oj.op ≠ .select cs b) {K : Act → World → Prop} {a : Act} {w : World}
    (hw0 : Wtd ops oi a) (h : wpOp P ops (QN R) j (fun a' w' => (execOp a.eval oi).run P w' = .ok (.value v) w' ∧ K a' w') (a.put oi.dst v) w) :
    wpOp P ops (QN R) j (fun a' w' => (Wtd ops oi a' ∧ (execOp a'.eval oi).run P w' = .ok (.value v) w') ∧ K (a'.put oi.dst v) w') a w := by
  obtain ⟨h1, h2, h3⟩ := Oper.apart_spec hap
  have keep : ∀ (u : Value) (w' : World), (execOp a.eval oi).run P w' = .ok (.value v) w' → Wtd ops oi (a.put oj.dst u) ∧ (execOp (a.put oj.dst u).eval oi).run P w' = .ok (.value v) w' := fun u w' hr =>
    ⟨(wanted_put oi a oj.dst u h3).trans hw0, by rw [execOp_put oi hsi a oj.dst u h3]; exact hr⟩
  unfold wpOp at *
  simp only [hj] at *
  rw [wanted_put oj a oi.dst v h1] at h
  split
  · rename_i hw
    simp only [hw, if_true] at h
    rcases h with h | h
    · left
      unfold Oper.wp at *
      rw [execOp_put oj hsj a oi.dst v h1] at h
      generalize (execOp a.eval oj).run P w = r at *
      cases r with
      | ok x w' =>
        cases x <;> simp only [Oper.upon] at h ⊢
        case value u => exact ⟨keep u w' h.1, by rw [← Act.put_comm a v u h2]; exact h.2⟩
        case skip => exact ⟨keep _ w' h.1, by rw [← Act.put_comm a v undef h2]; exact h.2⟩
        case defer d =>
          refine ⟨?_, ?_⟩
          · have := keep undef w' h.1
            cases hd : oj.dst <;> simp only [hd, Act.put] at this ⊢ <;> exact this
          · have h5 : Act.put ({ Act.put a oi.dst v with defers := d :: (Act.put a oi.dst v).defers } : Act) oj.dst undef = Act.put (Act.put ({ a with defers := d :: a.defers } : Act) oj.dst undef) oi.dst v := by
              have := Act.put_comm ({ a with defers := d :: a.defers } : Act) v undef h2
              rw [← this]
              cases hi : oi.dst <;> rfl
            rw [← h5]; exact h.2
        case enter f args =>
          refine h.mono fun e w'' he => ?_
          cases e with
          | returned u => exact ⟨keep u w'' he.1, by rw [← Act.put_comm a v u h2]; exact he.2⟩
          | panicked c => exact he
          | outgrown => exact absurd he QN_out
        case row row args => exact h.mono fun u w'' he => ⟨keep u w'' he.1, by rw [← Act.put_comm a v u h2]; exact he.2⟩
      | halt x w' => cases x <;> simp only [Oper.upon] at h ⊢ <;> exact h
    · exact absurd h.2 QN_out
  · rename_i hw
    simp only [hw] at h
    exact ⟨keep _ w h.1, by rw [← Act.put_comm a v undef h2]; exact h.2⟩
/-! ### phases -/
inductive Ph where
  | P (i : Nat)
  | S (is : List Nat)
  | H (is : List Nat)
  | F (i j : Nat)
def cntP : List Ph → Nat
  | [] => 0
  | .P _ :: ps => 1 + cntP ps
  | .S is :: ps => is.length + cntP ps
  | .H is :: ps => is.length + cntP ps
  | .F _ _ :: ps => 2 + cntP ps
def seqJ (md : Region.Mode) (ops : Array Oper) : List Nat → Array Bool → Bool
  | [], _ => true
  | i :: is, listed => decide (Region.ready md ops listed = [i]) && (decide (i < ops.size) && seqJ md ops is (listed.setIfInBounds i true))
def apartIJ (ops : Array Oper) (i j : Nat) : Bool := match ops[i]?, ops[j]? with
  | some oi, some oj => oi.apart ops oj
  | _, _ => false
def twoJ (md : Region.Mode) (ops : Array Oper) (i j : Nat) (listed : Array Bool) : Bool :=
  ((Region.ready md ops listed).all fun x => x == i || x == j) && ((Region.ready md ops listed).contains i && ((Region.ready md ops listed).contains j &&
    (decide (Region.ready md ops (listed.setIfInBounds i true) = [j]) && (decide (Region.ready md ops (listed.setIfInBounds j true) = [i]) && (apartIJ ops i j && (i != j))))))
def chkP (md : Region.Mode) (ops : Array Oper) : List Ph → Array Bool → Bool
  | [], l => (Region.ready md ops l).isEmpty
  | .P i :: ps, l => (Region.ready md ops l).contains i && (Region.free md ops l i && chkP md ops ps (l.setIfInBounds i true))
  | .S is :: ps, l => seqJ md ops is l && chkP md ops ps (lst l is)
  | .H is :: ps, l => (lexI md ops is l && (onlyB md ops is is.length l && outB md ops is (lst l is))) && chkP md ops ps (lst l is)
  | .F i j :: ps, l => twoJ md ops i j l && chkP md ops ps ((l.setIfInBounds i true).setIfInBounds j true)
/-- a world behind a quiet block -/
abbrev Wq (w w' : World) : Prop := ∃ p : Regrown, w' = grow (redrawn w p.d) p.os
def wpPs (P : Program) (ops : Array Oper) (R : Act → World → Prop) : List Ph → Act → World → Prop
  | [], a, w => R a w
  | .P i :: ps, a, w => ∃ o, ops[i]? = some o ∧ Wtd ops o a ∧ ∃ v, (∀ W, (execOp a.eval o).run P W = .ok (.value v) W) ∧ QHid (wpPs P ops R ps (a.put o.dst v) w)
  | .S is :: ps, a, w => wpList P ops (QN fun a' w' => QHid (wpPs P ops R ps a' w')) (opsI ops is) a w
  | .H is :: ps, a, w => QHid (wpQI P ops (Wq w) (fun a' => ∀ w', Wq w w' → QHid (wpPs P ops R ps a' w')) is a)
  | .F i j :: ps, a, w => ∃ oi oj v, ops[i]? = some oi ∧ ops[j]? = some oj ∧ Wtd ops oi a ∧ (execOp a.eval oi).run P w = .ok (.value v) w ∧
      wpList P ops (QN fun a' w' => (execOp a.eval oi).run P w' = .ok (.value v) w' ∧ QHid (wpPs P ops R ps a' w')) [oj] (a.put oi.dst v) w
theorem wp_QN {R' : Act → World → Prop} {o : Oper} {a : Act} {w : World} {K : Act → World → Prop} (h : o.wp P a w K (QN R')) : o.wp P a w K (QN R) := by
  unfold Oper.wp at *
  generalize (execOp a.eval o).run P w = r at *
  cases r with
  | ok x w' =>
    cases x <;> simp only [Oper.upon] at h ⊢
    case value u => exact h
    case skip => exact h
    case defer d => exact h
    case enter f args =>
      refine h.mono fun e w'' he => ?_
      cases e with
      | returned u => exact he
      | panicked c => exact absurd he (fun h => h)
      | outgrown => exact absurd he QN_out
    case row row args => exact h
  | halt x w' => cases x <;> simp only [Oper.upon] at h ⊢ <;> exact absurd h (fun h => h)
theorem wpOp_of_list {R' : Act → World → Prop} {j : Nat} {oj : Oper} (hj : ops[j]? = some oj) {a : Act} {w : World} (h : wpList P ops (QN R') [oj] a w) : wpOp P ops (QN R) j R' a w := by
  unfold wpList at h
  unfold wpOp
  simp only [hj]
  split
  · rename_i hw
    rw [if_pos hw] at h
    rcases h with h | h
    · exact .inl (wp_QN (R := R) (R' := R') (Oper.wp_mono (fun a' w' h' => h') h))
    · exact absurd h.2 QN_out
  · rename_i hw
    rw [if_neg hw] at h
    exact h
theorem wpAny_list {R' : Act → World → Prop} {g : Nat} : ∀ (is : List Nat) (listed : Array Bool) (a : Act) (w : World), seqJ md ops is listed = true → wpList P ops (QN R') (opsI ops is) a w →
    (∀ a' w', R' a' w' → wpAny P md ops (QN R) g (lst listed is) a' w') → wpAny P md ops (QN R) (is.length + g) listed a w
  | [], listed, a, w, _, h, hk => by rw [List.length_nil, Nat.zero_add]; exact hk _ _ h
  | i :: is, listed, a, w, hB, h, hk => by
    simp only [seqJ, Bool.and_eq_true, decide_eq_true_eq] at hB
    obtain ⟨hr, hi, hB'⟩ := hB
    have ho : ops[i]? = some ops[i] := Array.getElem?_eq_getElem hi
    have e1 : opsI ops (i :: is) = ops[i] :: opsI ops is := by unfold opsI; rw [List.filterMap_cons, ho]
    rw [e1] at h
    rw [List.length_cons, show is.length + 1 + g = (is.length + g) + 1 by omega]
    refine ⟨fun h0 => (by rw [hr] at h0; cases h0), fun j hj => ?_⟩
    rw [hr] at hj
    obtain rfl : j = i := by simpa using hj
    unfold wpList at h
    unfold wpOp
    simp only [ho]
    split
    · rename_i hw
      rw [if_pos hw] at h
      rcases h with h | h
      · exact .inl (wp_QN (Oper.wp_mono (fun a' w' h' => wpAny_list is _ a' w' hB' h' hk) h))
      · exact absurd h.2 QN_out
    · rename_i hw
      rw [if_neg hw] at h
      exact wpAny_list is _ _ _ hB' h hk
theorem wpAny_ph (hs : Region.noSelect ops = true) : ∀ (ps : List Ph) (listed : Array Bool) (a : Act) (w : World), chkP md ops ps listed = true → wpPs P ops R ps a w → wpAny P md ops (QN R) (cntP ps) listed a w
  | [], listed, a, w, hB, h => ⟨by simpa [chkP] using hB, h⟩
  | .P i :: ps, listed, a, w, hB, ⟨o, ho, hw, v, hv, h⟩ => by
    simp only [chkP, Bool.and_eq_true] at hB
    obtain ⟨hr, hf, hB'⟩ := hB
    show wpAny P md ops (QN R) (1 + cntP ps) listed a w
    rw [Nat.add_comm]
    exact wpAny_pure ho (Region.noSelect_spec hs) (cntP ps) listed a w (Region.free_spec ho hf) (by simpa using hr) ⟨hw, hv⟩ (wpAny_ph hs ps _ _ _ hB' h.out)
  | .S is :: ps, listed, a, w, hB, h => by
    simp only [chkP, Bool.and_eq_true] at hB
    exact wpAny_list is listed a w hB.1 h fun a' w' h' => wpAny_ph hs ps _ _ _ hB.2 h'.out
  | .H is :: ps, listed, a, w, hB, h => by
    rw [chkP, Bool.and_eq_true] at hB
    exact wpAny_quietBlock (C := Wq w) hs is listed a hB.1 ⟨⟨w.drawn, #[]⟩, by rw [grow_empty]; rfl⟩ h.out fun a' w' hw' h' => wpAny_ph hs ps _ _ _ hB.2 (h' w' hw').out
  | .F i j :: ps, listed, a, w, hB, ⟨oi, oj, v, hoi, hoj, hwi, hvi, h⟩ => by
    simp only [chkP, twoJ, apartIJ, hoi, hoj, Bool.and_eq_true, decide_eq_true_eq] at hB
    obtain ⟨⟨hall, hci, hcj, hri, hrj, hap, hne⟩, hB'⟩ := hB
    have hne' : i ≠ j := by simpa using hne
    show wpAny P md ops (QN R) (2 + cntP ps) listed a w
    rw [show 2 + cntP ps = (cntP ps + 1) + 1 by omega]
    have hsel := Region.noSelect_spec hs
    have hjop : wpOp P ops (QN R) j (fun a' w' => (execOp a.eval oi).run P w' = .ok (.value v) w' ∧ QHid (wpPs P ops R ps a' w')) (a.put oi.dst v) w := wpOp_of_list hoj h
    refine ⟨fun h0 => (by rw [h0] at hci; simp at hci), fun x hx => ?_⟩
    have hx' := List.all_eq_true.1 hall x hx
    rw [Bool.or_eq_true, beq_iff_eq, beq_iff_eq] at hx'
    rcases hx' with rfl | rfl
    · -- the load first
      unfold wpOp
      simp only [hoi, if_pos hwi]
      left
      unfold Oper.wp
      rw [hvi]
      show wpAny P md ops (QN R) (cntP ps + 1) (listed.setIfInBounds x true) (a.put oi.dst v) w
      refine ⟨fun h0 => (by rw [hri] at h0; cases h0), fun y hy => ?_⟩
      rw [hri] at hy
      obtain rfl : y = j := by simpa using hy
      exact wpOp_mono (fun a' w' h' => wpAny_ph hs ps _ _ _ hB' h'.2.out) hjop
    · -- the load behind
      have h2 := wpOp_put_at hoj hap (fun cs b => hsel i oi cs b hoi) (fun cs b => hsel x oj cs b hoj) hwi hjop
      refine wpOp_mono (fun a' w' h' => ?_) h2
      obtain ⟨⟨q1, q2⟩, q3⟩ := h'
      refine ⟨fun h0 => (by rw [hrj] at h0; cases h0), fun y hy => ?_⟩
      rw [hrj] at hy
      obtain rfl : y = i := by simpa using hy
      unfold wpOp
      simp only [hoi, if_pos q1]
      left
      unfold Oper.wp
      rw [q2]
      show wpAny P md ops (QN R) (cntP ps) _ (a'.put oi.dst v) w'
      rw [Array.setIfInBounds_comm _ _ (Ne.symm hne')]
      exact wpAny_ph hs ps _ _ _ hB' q3.out
def chkPh (md : Region.Mode) (ops : Array Oper) (ps : List Ph) : Bool := Region.noSelect ops && (decide (cntP ps = ops.size) && chkP md ops ps (Array.replicate ops.size false))
theorem wp_region_ph {id : Nat} {Q : Exit → Act → World → Prop} {a : Act} {w : World} {l : List Oper} (ps : List Ph) (hm : P.follows .mixedOrders = true) (hB : chkPh .any l.toArray ps = true)
    (h : QHid (wpPs P l.toArray (Q .normal) ps a w.drew)) : (Code.region id l.toArray true).wp P Q a w := by
  unfold chkPh at hB
  simp only [Bool.and_eq_true, decide_eq_true_eq] at hB
  obtain ⟨k1, k2, k3⟩ := hB
  refine wp_region_any hm ?_
  refine wpAny_exits (R := Q .normal) (fun a w h => h) _ _ _ _ ?_
  rw [← k2] at k3 ⊢
  exact wpAny_ph k1 ps _ a _ k3 h.out
theorem below_regrown_drew (w : World) (d : Nat) (os : Array Obj) : Below w.heap.size w (grow (redrawn w.drew d) os) :=
  have h := below_regrown w.drew d os
  ⟨h.os, h.tape, h.output, h.size, fun k hk => h.block k hk⟩
/-! ### steps -/
variable {ps : List Ph} {a : Act} {w : World}
theorem wpPs_nil (h : R a w) : QHid (wpPs P ops R [] a w) := ⟨h⟩
theorem wpPs_P {i : Nat} {o : Oper} (ho : ops[i]? = some o) (hw : Wtd ops o a) (h : ∀ K : Act → Prop, (∀ a, QHid (wpPs P ops R ps a w) → K a) → ∃ v, (∀ W, (execOp a.eval o).run P W = .ok (.value v) W) ∧ K (a.put o.dst v)) : QHid (wpPs P ops R (.P i :: ps) a w) := by
  obtain ⟨v, h1, h2⟩ := h (fun a => QHid (wpPs P ops R ps a w)) (fun _ h => h)
  exact ⟨o, ho, hw, v, h1, h2⟩
theorem wpPs_S {is : List Nat} {l : List Oper} (hl : opsI ops is = l) (h : ∀ Q' : Exit → Act → World → Prop, (∀ a' w', QHid (wpPs P ops R ps a' w') → Q' .normal a' w') → (LetsOut Q' → False) → wpList P ops Q' l a w) : QHid (wpPs P ops R (.S is :: ps) a w) := by
  have := h (QN fun a' w' => QHid (wpPs P ops R ps a' w')) (fun _ _ h => h) QN_out
  rw [← hl] at this
  exact ⟨this⟩
theorem wpPs_H {is : List Nat} (h : QHid (wpQI P ops (Wq w) (fun a' => ∀ w', Wq w w' → QHid (wpPs P ops R ps a' w')) is a)) : QHid (wpPs P ops R (.H is :: ps) a w) := ⟨h⟩
theorem wpPs_F {i j : Nat} {oi oj : Oper} (v : Value) (hoi : ops[i]? = some oi) (hoj : ops[j]? = some oj) (hw : Wtd ops oi a) (hv : (execOp a.eval oi).run P w = .ok (.value v) w)
    (h : ∀ Q' : Exit → Act → World → Prop, (∀ a' w', (execOp a.eval oi).run P w' = .ok (.value v) w' → QHid (wpPs P ops R ps a' w') → Q' .normal a' w') → (LetsOut Q' → False) → wpList P ops Q' [oj] (a.put oi.dst v) w) : QHid (wpPs P ops R (.F i j :: ps) a w) :=
  ⟨oi, oj, v, hoi, hoj, hw, hv, h _ (fun a' w' h1 h2 => ⟨h1, h2⟩) QN_out⟩
end
end Go.Proofs.YtekfgkeimlidhaaGreatDoor
