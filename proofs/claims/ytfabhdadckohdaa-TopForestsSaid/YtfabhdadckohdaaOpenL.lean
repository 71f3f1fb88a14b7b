import Derived.Test.YtfabhdadckohdaaL0
import Derived.ProofKit
import Derived.OpenShut
import Derived.Deep.SlicePairs
set_option linter.all false
set_option maxRecDepth 100000
namespace Go.Proofs.Ytfabhdadckohdaa
open Go.ChangeShapes Go.WideShapes Go.ChangeAt Go.RowKit Go.Deep
section
variable {H : Type} {enc : TypeId × Value → H} {P : Program} {W : World}
theorem open_lines_ {t e : TypeId} {f0 f1 : Field} {r : Reach} {b0 : Nat} {v : Value} {d : DataW H} {p : List MemPlace}
    (ht : P.underlying t = some (.slice e)) (he : P.underlying e = some (.struct #[f0, f1])) (ce : P.cellsOf e = 2) (o0 : f0.offset = 0) (o1 : f1.offset = 1)
    (c0 : P.cellsOf f0.type = 1) (c1 : P.cellsOf f1.type = 1) (u0 : P.underlying f0.type = some (.int .i64)) (u1 : P.underlying f1.type = some (.int .i64))
    (hv : Value.okWide P W r b0 t v) (h : DataW.Trod enc P W 0 (fun _ => true) true t v d p) :
    ∃ (A : Option Addr) (cap : Nat) (l : List (Int × Int)), v = .slice A l.length cap ∧ ReadsL W W.heap.size A l ∧ l.length ≤ maxLen := by
  obtain ⟨a, len, cap, rfl⟩ := okWide_slice ht hv
  obtain ⟨fuel, hf⟩ := h
  rcases open_slice_pairs ht he ce o0 o1 c0 c1 hf with ⟨hcs, _⟩ | ⟨x, l, c, m, n, V0, V1, D0, D1, P0, P1, hcs, _, hl, hm, hmm, _, hi⟩
  · simp [Value.cells] at hcs
    obtain ⟨rfl, rfl, rfl⟩ := hcs
    exact ⟨none, 0, [], rfl, ⟨rfl, fun h => by simp at h⟩, by simp⟩
  · simp [Value.cells] at hcs
    obtain ⟨rfl, rfl, rfl⟩ := hcs
    simp at hmm
    subst hmm
    have hint : ∀ i, i < m → ∃ y0 y1 : Int, V0 i = .int .i64 y0 ∧ V1 i = .int .i64 y1 := by
      intro i him
      obtain ⟨_, _, h0, h1⟩ := hi i him
      obtain ⟨y0, e0, _⟩ := DataW.trod_int u0 h0
      obtain ⟨y1, e1, _⟩ := DataW.trod_int u1 h1
      simp at e0 e1
      exact ⟨y0, y1, e0, e1⟩
    let L : List (Int × Int) := (List.range len).map fun i => (intOf (V0 i), intOf (V1 i))
    have hL : L.length = len := by simp [L]
    refine ⟨some x, m, L, by rw [hL], ⟨lineCells_len L, fun hp => ?_⟩, by rw [hL]; omega⟩
    rw [hL] at hp
    obtain ⟨b, off, spot⟩ := x
    have hspot : spot = none := by simpa [Addr.add] using World.cell?_spot (hi 0 (by omega)).1
    subst hspot
    have hcell : ∀ i, i < len → W.cell? ⟨b, off + i * 2, none⟩ = some (V0 i) ∧ W.cell? ⟨b, off + (i * 2 + 1), none⟩ = some (V1 i) := by
      intro i hil
      obtain ⟨h0, h1, _⟩ := hi i (by omega)
      rw [Go.WideShapes.add_plain] at h0 h1
      exact ⟨h0, h1⟩
    refine ⟨b, off, rfl, World.block_lt_of_cell? _ _ (hcell 0 (by omega)).1, fun j u hu => ?_⟩
    have hj : j < L.length * 2 := by rw [← lineCells_len L]; exact (List.getElem?_eq_some_iff.1 hu).1
    have hk : j / 2 < L.length := by omega
    obtain ⟨h1, h2⟩ := lineCells_at L (j / 2) hk
    have hkl : j / 2 < len := by omega
    obtain ⟨y0, y1, e0, e1⟩ := hint (j / 2) (by omega)
    obtain ⟨c0', c1'⟩ := hcell (j / 2) hkl
    have g : L[j / 2] = (y0, y1) := by simp [L, e0, e1, intOf]
    rw [g] at h1 h2
    rcases Nat.mod_two_eq_zero_or_one j with hz | hz
    · have ej : j / 2 * 2 = j := by omega
      rw [ej] at h1 c0'
      rw [hu] at h1
      rw [c0', e0, h1]
    · have ej : j / 2 * 2 + 1 = j := by omega
      rw [ej] at h2 c1'
      rw [hu] at h2
      rw [c1', e1, h2]
end
end Go.Proofs.Ytfabhdadckohdaa
