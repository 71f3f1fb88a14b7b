import Derived.Test.YtccdnokddkpmgaaBSt
import Derived.ProofKit
import Derived.OpenShut
import Derived.Deep.Grids
/- a row of bools as an argument -/
set_option linter.all false
set_option maxRecDepth 100000
namespace Go.Proofs.Ytccdnokddkpmgaa
open Go.ChangeShapes Go.WideShapes Go.ChangeAt Go.RowKit Go.Deep
section
variable {H : Type} {enc : TypeId × Value → H} {P : Program} {W : World}
theorem open_bools_ {t e : TypeId} {r : Reach} {b0 : Nat} {v : Value} {d : DataW H} {p : List MemPlace}
    (ht : P.underlying t = some (.slice e)) (he : P.underlying e = some .bool) (hc : P.cellsOf e = 1)
    (hv : Value.okWide P W r b0 t v) (h : DataW.Trod enc P W 0 (fun _ => true) true t v d p) :
    ∃ (A : Option Addr) (cap : Nat) (l : List Bool), v = .slice A l.length cap ∧ ReadsB W W.heap.size A l ∧ l.length ≤ maxLen := by
  obtain ⟨a, len, cap, rfl⟩ := okWide_slice ht hv
  obtain ⟨fuel, hf⟩ := h
  rcases open_bools ht he hc hf with ⟨hcs, _⟩ | ⟨x, l, c, B, hcs, _, hl, hm, _, hi⟩
  · simp [Value.cells] at hcs
    obtain ⟨rfl, rfl, rfl⟩ := hcs
    exact ⟨none, 0, [], rfl, ⟨rfl, fun h => by simp at h⟩, by simp⟩
  · simp [Value.cells] at hcs
    obtain ⟨rfl, rfl, rfl⟩ := hcs
    let L : List Bool := (List.range len).map B
    have hL : L.length = len := by simp [L]
    refine ⟨some x, cap, L, by rw [hL], ⟨by simp [boolV], fun hp => ?_⟩, by rw [hL]; omega⟩
    rw [hL] at hp
    obtain ⟨b, off, spot⟩ := x
    have hspot : spot = none := by simpa [Addr.add] using World.cell?_spot (hi 0 (by omega))
    subst hspot
    have hcell : ∀ i, i < len → W.cell? ⟨b, off + i, none⟩ = some (.bool (B i)) := by
      intro i hil
      have h0 := hi i (by omega)
      rw [Go.WideShapes.add_plain] at h0
      exact h0
    refine ⟨b, off, rfl, World.block_lt_of_cell? _ _ (hcell 0 (by omega)), fun j u hu => ?_⟩
    have hj : j < len := by
      have := (List.getElem?_eq_some_iff.1 hu).1
      simpa [boolV, L] using this
    rw [hcell j hj]
    have : (boolV L)[j]? = some (.bool (B j)) := by simp [boolV, L, hj]
    rw [← hu, this]
end
end Go.Proofs.Ytccdnokddkpmgaa
