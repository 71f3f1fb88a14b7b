import Derived.Test.YtjpfmbffiagjgaaGreatDoorPhC
import Derived.Test.YtjpfmbffiagjgaaGreatDoorStillIn
/- the phases' rules inside a fence that lets every function in -/
set_option linter.all false
set_option maxRecDepth 100000
namespace Go.Proofs.YtjpfmbffiagjgaaGreatDoor
open Go.RowKit Go.Sort
section
variable {P : Program} {ops : Array Oper} {md : Region.Mode} {R : Act → World → Prop} {F : Fence} {m : Nat}
structure OpenR (F : Fence) : Prop where
  o : Open F
  rows : ∀ {n : Nat} {P : Program} {row : String} {args : Array Value} {w : World} {R : Value → World → Prop}, Rows P row args w R → RowsIn F n P row args w R
theorem openR_wide : OpenR Fence.wide := ⟨open_wide, fun h c cs _ => let ⟨v, w', r, s⟩ := h c cs; ⟨v, w', r, stepsIn_wide.2 s⟩⟩
theorem openR_round (l : Nat) : OpenR (Fence.wide.inRound l) := ⟨open_round l, fun h c cs _ => let ⟨v, w', r, s⟩ := h c cs; ⟨v, w', r, stepsIn_wide.2 s⟩⟩
theorem wpOpIn_of_wpOp (hF : OpenR F) {Q : Exit → Act → World → Prop} (hQ : ∀ a w, R a w → Q .normal a w) {i : Nat} {K K' : Act → World → Prop} {a : Act} {w : World} (hdef : ∀ o, ops[i]? = some o → ∀ c, o.op ≠ .defer c) (hK : ∀ a w, K a w → K' a w)
    (h : wpOp P ops (QN R) i K a w) : wpOpIn F m P ops Q i K' a w := by
  unfold wpOp at h
  unfold wpOpIn
  split
  · rename_i ho; simp only [ho] at h; exact hK _ _ h
  · rename_i o ho
    simp only [ho] at h
    split
    · rename_i hw
      simp only [hw, if_true] at h
      rcases h with h | h
      · refine ⟨fun f _ => hF.o.fn f, ?_⟩
        rw [Oper.semAt_plain F _ _ (hdef o ho)]
        unfold Oper.wp at h
        generalize (execOp a.eval o).run P w = r at *
        cases r with
        | ok x w' =>
          cases x <;> simp only [Oper.upon, Oper.uponIn] at h ⊢
          case value v => exact hK _ _ h
          case skip => exact hK _ _ h
          case defer d => exact hK _ _ h
          case enter f args =>
            refine ⟨fun hd => (by rw [hF.o.depth] at hd; cases hd), (hF.o.calls h).mono ?_⟩
            intro e w'' he
            cases e with
            | returned u => exact hK _ _ he
            | panicked c => exact absurd he (fun h => h)
            | outgrown => exact absurd he QN_out
          case row row args => exact ⟨fun hd => (by rw [hF.o.depth] at hd; cases hd), (hF.rows h).mono fun _ _ he => hK _ _ he⟩
        | halt x w' => cases x <;> simp only [Oper.upon, Oper.uponIn] at h ⊢ <;> exact absurd h (fun h => h)
      · exact absurd h.2 QN_out
    · rename_i hw
      simp only [hw] at h
      exact ⟨fun f _ => hF.o.fn f, hK _ _ h⟩
theorem wpAnyIn_of_any (hF : OpenR F) {Q : Exit → Act → World → Prop} (hQ : ∀ a w, R a w → Q .normal a w) (hdef : ∀ (i : Nat) (o : Oper), ops[i]? = some o → ∀ c, o.op ≠ .defer c) :
    ∀ (f : Nat) (listed : Array Bool) (a : Act) (w : World), wpAny P md ops (QN R) f listed a w → wpAnyIn F m P md ops Q f listed a w
  | 0, _, _, _, h => ⟨h.1, hQ _ _ h.2⟩
  | f + 1, listed, a, w, h => ⟨fun h0 => hQ _ _ (h.1 h0), fun i hi => wpOpIn_of_wpOp hF hQ (hdef i) (fun a' w' h' => wpAnyIn_of_any hF hQ hdef f _ a' w' h') (h.2 i hi)⟩
theorem wpIn_region_phc (hF : OpenR F) {id : Nat} {Q : Exit → Act → World → Prop} {a : Act} {w : World} {l : List Oper} (C : World → Prop) (ps : List PC) (hm : P.follows .mixedOrders = true) (hB : chkC .any l.toArray ps = true) (hd : noDefer l = true) (hC : C w.drew)
    (h : QHid (wpCs P l.toArray C (Q .normal) ps a w.drew)) : (Code.region id l.toArray true).wpIn F m P Q a w := by
  unfold chkC at hB
  simp only [Bool.and_eq_true, decide_eq_true_eq] at hB
  obtain ⟨k1, k2, k3⟩ := hB
  refine wpIn_region_any hm ?_
  refine wpAnyIn_of_any (R := Q .normal) hF (fun a w h => h) (noDefer_spec hd) _ _ _ _ ?_
  rw [← k2] at k3 ⊢
  exact wpAny_of_C _ _ _ _ (wpAnyC_ph k1 ps _ a _ k3 hC h.out)
theorem wpIn_region_ph (hF : OpenR F) {id : Nat} {Q : Exit → Act → World → Prop} {a : Act} {w : World} {l : List Oper} (ps : List Ph) (hm : P.follows .mixedOrders = true) (hB : chkPh .any l.toArray ps = true) (hd : noDefer l = true)
    (h : QHid (wpPs P l.toArray (Q .normal) ps a w.drew)) : (Code.region id l.toArray true).wpIn F m P Q a w := by
  unfold chkPh at hB
  simp only [Bool.and_eq_true, decide_eq_true_eq] at hB
  obtain ⟨k1, k2, k3⟩ := hB
  refine wpIn_region_any hm ?_
  refine wpAnyIn_of_any (R := Q .normal) hF (fun a w h => h) (noDefer_spec hd) _ _ _ _ ?_
  rw [← k2] at k3 ⊢
  exact wpAny_ph k1 ps _ a _ k3 h.out
end
end Go.Proofs.YtjpfmbffiagjgaaGreatDoor
