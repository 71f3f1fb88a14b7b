import Derived.Test.YtecllcpjjllogaaDoorOpen
import Derived.Test.YtecllcpjjllogaaDoorGen
import Derived.ChangeArms
/- a parameter that is a row of rows -/
set_option linter.all false
set_option maxRecDepth 100000
namespace Go.Proofs.YtecllcpjjllogaaDoor
open Go.ChangeShapes Go.WideShapes Go.ChangeAt Go.RowKit
section
variable {H : Type} {enc : TypeId × Value → H} {P : Program} {W : World}
theorem ints_of_trod {t e : TypeId} {fuel : Nat} {cs : List Value} {x : DataW H × List MemPlace}
    (ht : P.underlying t = some (.slice e)) (he : P.underlying e = some (.int .i64)) (hc : P.cellsOf e = 1) (hf : DataW.trod enc P W 0 (fun _ => true) true fuel t cs = some x) :
    ∃ (A : Option Addr) (cap : Nat) (l : List Int), cs = [.slice A l.length cap] ∧ ReadsI W W.heap.size A l ∧ l.length ≤ cap ∧ l.length ≤ maxLen ∧ ∀ n ∈ l, (Lit.int .i64 n).wf = true := by
  rcases open_ints ht he hc hf with ⟨hcs, _⟩ | ⟨x, l, c, zs, hcs, _, hl, hm, hz, _, hcell, hwz⟩
  · exact ⟨none, 0, [], hcs, ⟨rfl, fun h => by simp at h⟩, by simp, by simp, by simp⟩
  · simp at hz
    have hlen : (zs.take l).length = l := by simp; omega
    refine ⟨some x, c, zs.take l, by rw [hlen]; exact hcs, ⟨by simp, fun hp => ?_⟩, by rw [hlen]; omega, by rw [hlen]; omega, fun n hn => hwz n (List.mem_of_mem_take hn)⟩
    rw [hlen] at hp
    obtain ⟨b, off, rfl, hcell2⟩ := ints_at hcell (by omega)
    refine ⟨b, off, rfl, World.block_lt_of_cell? _ _ (hcell2 0 (by omega)), fun j u hu => ?_⟩
    have hj : j < l := by
      have := (List.getElem?_eq_some_iff.1 hu).1
      simp at this; omega
    rw [hcell2 j (by omega)]
    simp [List.getElem?_take, hj] at hu
    obtain ⟨y, hy, rfl⟩ := hu
    simp [hy]
theorem cells_one {a : Addr} {c1 : List Value} (hc1 : W.cells? 0 a 1 = some c1) : ∃ c, c1 = [c] ∧ W.cell? a = some c := by
  have e0 : a.add 0 = a := by simp [Addr.add]
  unfold World.cells? at hc1
  split at hc1
  · simp only [List.range_succ, List.range_zero, List.nil_append, List.mapM_cons, List.mapM_nil, e0] at hc1
    cases hcc : W.cell? a with
    | none => simp [hcc] at hc1
    | some c => simp [hcc] at hc1; exact ⟨c, hc1.symm, rfl⟩
  · cases hc1
theorem open_rows_ {t e e2 : TypeId} {r : Reach} {b0 : Nat} {v : Value} {d : DataW H} {p : List MemPlace}
    (ht : P.underlying t = some (.slice e)) (he : P.underlying e = some (.slice e2)) (he2 : P.underlying e2 = some (.int .i64)) (hc : P.cellsOf e = 1) (hc2 : P.cellsOf e2 = 1)
    (hv : Value.okWide P W r b0 t v) (h : DataW.Trod enc P W 0 (fun _ => true) true t v d p) :
    ∃ (A : Option Addr) (cap : Nat) (ls : List (List Int)), v = .slice A ls.length cap ∧ ReadsR W W.heap.size A ls ∧ ls.length ≤ maxLen ∧ ∀ l ∈ ls, l.length ≤ maxLen ∧ ∀ n ∈ l, (Lit.int .i64 n).wf = true := by
  obtain ⟨a, len, cap, rfl⟩ := okWide_slice ht hv
  obtain ⟨fuel, hf⟩ := h
  rcases DataW.trod_slice ht hf with ⟨hcs, _⟩ | ⟨x, l, c, elems, rest, n, _, hcs, _, _, hl, hm, hlen, hel, _⟩
  · simp [Value.cells] at hcs
    obtain ⟨rfl, rfl, rfl⟩ := hcs
    exact ⟨none, 0, [], rfl, ⟨[], ⟨rfl, fun h => by simp at h⟩, fun k l h => by simp at h⟩, by simp, by simp⟩
  · simp [Value.cells] at hcs
    obtain ⟨rfl, rfl, rfl⟩ := hcs
    have each : ∀ i : Fin len, ∃ (q : Option Addr × Nat × List Int), W.cell? (x.add i.1) = some (.slice q.1 q.2.2.length q.2.1) ∧ ReadsI W W.heap.size q.1 q.2.2 ∧ q.2.2.length ≤ q.2.1 ∧ q.2.2.length ≤ maxLen ∧ ∀ n ∈ q.2.2, (Lit.int .i64 n).wf = true := by
      intro i
      have hE := hel i.1 i.2
      rw [hc, Nat.mul_one, List.getElem?_eq_getElem (by omega)] at hE
      simp only [Option.bind_eq_some_iff] at hE
      obtain ⟨c1, hc1, hy1⟩ := hE
      obtain ⟨v1, rfl, hcell⟩ := cells_one hc1
      obtain ⟨A, cap, l, e1, h1, h2, h3, h4⟩ := ints_of_trod he he2 hc2 hy1
      injection e1 with e1
      subst e1
      exact ⟨(A, cap, l), hcell, h1, h2, h3, h4⟩
    obtain ⟨f, hf'⟩ := Classical.axiomOfChoice each
    let ls : List (List Int) := List.ofFn fun i => (f i).2.2
    let vs : List Value := List.ofFn fun i => .slice (f i).1 (f i).2.2.length (f i).2.1
    have hL : ls.length = len := by simp [ls]
    refine ⟨some x, cap, ls, by rw [hL], ⟨vs, ⟨by simp [vs, ls], fun hp => ?_⟩, fun k l hkl => ?_⟩, by rw [hL]; omega, fun l hl => ?_⟩
    · rw [hL] at hp
      obtain ⟨b, off, spot⟩ := x
      have hspot : spot = none := by simpa [Addr.add] using World.cell?_spot (hf' ⟨0, by omega⟩).1
      subst hspot
      refine ⟨b, off, rfl, ?_, fun j u hu => ?_⟩
      · have := (hf' ⟨0, by omega⟩).1
        exact World.block_lt_of_cell? _ _ this
      · have hj : j < len := by
          have := (List.getElem?_eq_some_iff.1 hu).1
          simpa [vs] using this
        have := (hf' ⟨j, hj⟩).1
        rw [Go.WideShapes.add_plain] at this
        simp [vs, List.getElem?_ofFn, hj] at hu
        subst hu
        exact this
    · have hk : k < len := by
        have := (List.getElem?_eq_some_iff.1 hkl).1
        simpa [ls] using this
      simp [ls, List.getElem?_ofFn, hk] at hkl
      subst hkl
      exact ⟨_, _, by simp [vs, List.getElem?_ofFn, hk], (hf' ⟨k, hk⟩).2.1, (hf' ⟨k, hk⟩).2.2.1⟩
    · simp only [ls, List.mem_ofFn] at hl
      obtain ⟨i, rfl⟩ := hl
      exact ⟨(hf' i).2.2.2.1, (hf' i).2.2.2.2⟩
end
end Go.Proofs.YtecllcpjjllogaaDoor
