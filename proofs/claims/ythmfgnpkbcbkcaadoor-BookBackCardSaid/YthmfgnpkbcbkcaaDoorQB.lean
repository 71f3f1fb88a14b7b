import Derived.Test.YthmfgnpkbcbkcaaDoorStillIn
import Derived.Lib.QuietBelow
import Derived.Lib.Hide
/- a region that draws its order, in a fence that lets every function in; its callees may lay blocks -/
set_option linter.all false
set_option maxRecDepth 100000
namespace Go.Proofs.YthmfgnpkbcbkcaaDoor
open Go.RowKit Go.Sort
structure QHid (p : Prop) : Prop where
  out : p
section
variable {P : Program} {ops : Array Oper} {md : Region.Mode} {F : Fence} {m : Nat} {C : World → Prop}
theorem wpOpIn_of_qOp (hF : Open F) {i : Nat} {a : Act} {K : Act → Prop} {K' : Act → World → Prop} {Q' : Exit → Act → World → Prop} {w : World} (hdef : ∀ o, ops[i]? = some o → ∀ c, o.op ≠ .defer c)
    (hC : C w) (h : ∀ a w', C w' → K a → K' a w') (hh : qOp P ops C i K a) : wpOpIn F m P ops Q' i K' a w := by
  unfold qOp at hh
  unfold wpOpIn
  split
  · rename_i ho; simp only [ho] at hh; exact h _ _ hC hh
  · rename_i o ho
    simp only [ho] at hh
    split
    · rename_i hw
      simp only [hw, if_true] at hh
      unfold Oper.wpIn
      refine ⟨fun f _ => hF.fn f, ?_⟩
      rw [Oper.semAt_plain F _ _ (hdef o ho)]
      obtain ⟨v, h1, h2⟩ := hh
      have h3 := h1 w hC
      unfold Oper.quietAt at h3
      generalize (execOp a.eval o).run P w = r at *
      cases r with
      | ok x w' =>
        cases x <;> simp only [Oper.quietUpon] at h3
        case value u => obtain ⟨rfl, rfl⟩ := h3; exact h _ _ hC h2
        case skip => obtain ⟨rfl, rfl⟩ := h3; exact h _ _ hC h2
        case enter f args =>
          obtain ⟨rfl, hc⟩ := h3
          refine ⟨fun hd => (by rw [hF.depth] at hd; cases hd), (hF.calls hc).mono ?_⟩
          rintro e w'' ⟨rfl, hw''⟩
          exact h _ _ hw'' h2
      | halt x w' => simp only [Oper.quietUpon] at h3
    · rename_i hw
      simp only [hw] at hh
      exact ⟨fun f _ => hF.fn f, h _ _ hC hh⟩
theorem wpAnyIn_of_quiet (hF : Open F) (hdef : ∀ (i : Nat) (o : Oper), ops[i]? = some o → ∀ c, o.op ≠ .defer c) {Q : Act → Prop} {Q' : Exit → Act → World → Prop} (hQ : ∀ a w, C w → Q a → Q' .normal a w) :
    ∀ (fuel : Nat) (listed : Array Bool) (a : Act) (w : World), C w → wpAnyQ P md ops C Q fuel listed a → wpAnyIn F m P md ops Q' fuel listed a w
  | 0, _, _, _, hw, h => ⟨h.1, hQ _ _ hw h.2⟩
  | fuel + 1, _, _, _, hw, h => ⟨fun h0 => hQ _ _ hw (h.1 h0), fun i hi => wpOpIn_of_qOp hF (hdef i) hw (fun a' w' hw' => wpAnyIn_of_quiet hF hdef hQ fuel _ a' w' hw') (h.2 i hi)⟩
theorem wpIn_region_quiet_open (hF : Open F) {id : Nat} {Q : Exit → Act → World → Prop} {a : Act} {w : World} {l : List Oper} (hm : P.follows .mixedOrders = true) (hB : Region.lexB .any l.toArray = true) (hd : noDefer l = true)
    (h : wpQuiet P l.toArray (fun w' => ∃ p : Regrown, w' = grow (redrawn w p.d) p.os) (fun a' => ∀ w', (∃ p : Regrown, w' = grow (redrawn w p.d) p.os) → Q .normal a' w') l a) : (Code.region id l.toArray true).wpIn F m P Q a w := by
  simp only [Region.lexB, Bool.and_eq_true] at hB
  refine wpIn_region_any hm (wpAnyIn_of_quiet hF (noDefer_spec hd) (C := fun w' => ∃ p : Regrown, w' = grow (redrawn w p.d) p.os) (Q := fun a' => ∀ w', (∃ p : Regrown, w' = grow (redrawn w p.d) p.os) → Q .normal a' w') (fun _ w' hw' h => h w' hw') _ _ _ _ ⟨⟨w.drawn + 1, #[]⟩, by rw [grow_empty]; rfl⟩ ?_)
  have := wpAnyQ_lex (C := fun w' => ∃ p : Regrown, w' = grow (redrawn w p.d) p.os) (md := .any) hB.1 l 0 (Array.replicate l.toArray.size false) a (by simp) (by simpa using hB.2) h
  simpa using this
/-- one operation at a time, the goal behind a structure (nothing looks into it) -/
theorem wpQH_step {Q : Act → Prop} {a : Act} {o : Oper} {rest : List Oper}
    (h : ∀ K : Act → Prop, (∀ a, QHid (wpQuiet P ops C Q rest a) → K a) → if Region.wanted o (yielded ops a.tmps) then o.quiet P a C K else K (a.put o.dst undef)) : QHid (wpQuiet P ops C Q (o :: rest) a) :=
  QHid.mk (wpQuiet_step fun K hK => h K fun a hh => hK a hh.out)
theorem wpQH_nil {Q : Act → Prop} {a : Act} (h : Q a) : QHid (wpQuiet P ops C Q [] a) := QHid.mk (wpQuiet_nil h)
theorem wpIn_region_quiet_openH (hF : Open F) {id : Nat} {Q : Exit → Act → World → Prop} {a : Act} {w : World} {l : List Oper} (hm : P.follows .mixedOrders = true) (hB : Region.lexB .any l.toArray = true) (hd : noDefer l = true)
    (h : QHid (wpQuiet P l.toArray (fun w' => ∃ p : Regrown, w' = grow (redrawn w p.d) p.os) (fun a' => ∀ w', (∃ p : Regrown, w' = grow (redrawn w p.d) p.os) → Q .normal a' w') l a)) : (Code.region id l.toArray true).wpIn F m P Q a w :=
  wpIn_region_quiet_open hF hm hB hd h.out
theorem wp_region_quiet_belowH {id : Nat} {Q : Exit → Act → World → Prop} {a : Act} {w : World} {l : List Oper} (hm : P.follows .mixedOrders = true) (hB : Region.lexB .any l.toArray = true)
    (h : QHid (wpQuiet P l.toArray (fun w' => ∃ p : Regrown, w' = grow (redrawn w p.d) p.os) (fun a' => ∀ w', (∃ p : Regrown, w' = grow (redrawn w p.d) p.os) → Q .normal a' w') l a)) : (Code.region id l.toArray true).wp P Q a w :=
  wp_region_quiet_below hm hB h.out
end
end Go.Proofs.YthmfgnpkbcbkcaaDoor
