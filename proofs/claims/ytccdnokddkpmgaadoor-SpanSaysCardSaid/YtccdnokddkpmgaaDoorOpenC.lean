import Derived.Test.YtccdnokddkpmgaaDoorCost
import Derived.ProofKit
import Derived.OpenShut
import Derived.Deep.SlicePairs
import Derived.Deep.Strs
set_option linter.all false
set_option maxRecDepth 100000
namespace Go.Proofs.YtccdnokddkpmgaaDoor
open Go.ChangeShapes Go.WideShapes Go.ChangeAt Go.RowKit Go.Deep
theorem list_of {α : Type} {Q : Nat → α → Prop} : ∀ n, (∀ i < n, ∃ y, Q i y) → ∃ L : List α, L.length = n ∧ ∀ i (h : i < L.length), Q i L[i]
  | 0, _ => ⟨[], rfl, fun i h => by simp at h⟩
  | n+1, h => by
    obtain ⟨L, h1, h2⟩ := list_of n (fun i hi => h i (by omega))
    obtain ⟨y, hy⟩ := h n (by omega)
    refine ⟨L ++ [y], by simp [h1], fun i hi => ?_⟩
    by_cases e : i < L.length
    · rw [List.getElem_append_left e]; exact h2 i e
    · have : i = L.length := by simp at hi; omega
      subst this
      simp; rw [h1]; exact hy
section
variable {H : Type} {enc : TypeId × Value → H} {P : Program} {W : World}
theorem open_costs_ {t e : TypeId} {f0 f1 f2 : Field} {r : Reach} {b0 : Nat} {v : Value} {d : DataW H} {p : List MemPlace}
    (ht : P.underlying t = some (.slice e)) (he : P.underlying e = some (.struct #[f0, f1, f2])) (ce : P.cellsOf e = 3)
    (hf : (f0.offset = 0 ∧ P.cellsOf f0.type = 1) ∧ (f1.offset = 1 ∧ P.cellsOf f1.type = 1) ∧ (f2.offset = 2 ∧ P.cellsOf f2.type = 1))
    (u0 : P.underlying f0.type = some (.int .i64)) (u1 : P.underlying f1.type = some (.int .i64)) (u2 : P.underlying f2.type = some (.int .i64))
    (hv : Value.okWide P W r b0 t v) (h : DataW.Trod enc P W 0 (fun _ => true) true t v d p) :
    ∃ (A : Option Addr) (cap : Nat) (l : List Cost), v = .slice A l.length cap ∧ ReadsC W W.heap.size A l ∧ l.length ≤ maxLen := by
  obtain ⟨a, len, cap, rfl⟩ := okWide_slice ht hv
  obtain ⟨fuel, hfu⟩ := h
  obtain ⟨⟨o0, c0⟩, ⟨o1, c1⟩, ⟨o2, c2⟩⟩ := hf
  rcases open_slice ht hfu with ⟨hcs, _⟩ | ⟨x, l, c, m, n, D, Pl, hcs, _, hl, hm, hmm, _, hx⟩
  · simp [Value.cells] at hcs
    obtain ⟨rfl, rfl, rfl⟩ := hcs
    exact ⟨none, 0, [], rfl, ⟨rfl, fun h => by simp at h⟩, by simp⟩
  · simp [Value.cells] at hcs
    obtain ⟨rfl, rfl, rfl⟩ := hcs
    simp at hmm
    subst hmm
    have each : ∀ i, i < len → ∃ y : Cost, W.cell? (x.add (i * 3)) = some (.int .i64 y.1) ∧ W.cell? (x.add (i * 3 + 1)) = some (.int .i64 y.2.1) ∧ W.cell? (x.add (i * 3 + 2)) = some (.int .i64 y.2.2) := by
      intro i hi
      obtain ⟨cs', h1, h2⟩ := hx i (by omega)
      rw [ce] at h1
      obtain ⟨_, hlen, hcell⟩ := World.cells?_some h1
      obtain ⟨xs, k, hk, hxy, _, hxl, hff⟩ := DataW.trod_struct he h2
      match xs, hxl, cs', hlen with
      | [y0, y1, y2], _, [v0, v1, v2], _ =>
        have g0 := hff 0 f0 rfl
        have g1 := hff 1 f1 rfl
        have g2 := hff 2 f2 rfl
        simp [o0, o1, o2, c0, c1, c2] at g0 g1 g2
        have e0 := hcell 0 (by omega)
        have e1 := hcell 1 (by omega)
        have e2 := hcell 2 (by omega)
        rw [add_add] at e0 e1 e2
        obtain ⟨z0, q0, _⟩ := DataW.trod_int u0 g0
        obtain ⟨z1, q1, _⟩ := DataW.trod_int u1 g1
        obtain ⟨z2, q2, _⟩ := DataW.trod_int u2 g2
        simp at q0 q1 q2
        subst q0; subst q1; subst q2
        exact ⟨(z0, z1, z2), by simpa using e0, by simpa using e1, by simpa using e2⟩
    obtain ⟨L, hL, hQ⟩ := list_of len each
    refine ⟨some x, m, L, by rw [hL], ⟨costCells_len L, fun hp => ?_⟩, by rw [hL]; omega⟩
    obtain ⟨b, off, spot⟩ := x
    have hspot : spot = none := by simpa [Addr.add] using World.cell?_spot (hQ 0 hp).1
    subst hspot
    have hcell : ∀ i (h : i < L.length), W.cell? ⟨b, off + i * 3, none⟩ = some (.int .i64 L[i].1) ∧ W.cell? ⟨b, off + (i * 3 + 1), none⟩ = some (.int .i64 L[i].2.1) ∧ W.cell? ⟨b, off + (i * 3 + 2), none⟩ = some (.int .i64 L[i].2.2) := by
      intro i hil
      obtain ⟨h0, h1, h2⟩ := hQ i hil
      rw [Go.WideShapes.add_plain] at h0 h1 h2
      exact ⟨h0, h1, h2⟩
    refine ⟨b, off, rfl, World.block_lt_of_cell? _ _ (hcell 0 hp).1, fun j u hu => ?_⟩
    have hj : j < L.length * 3 := by rw [← costCells_len L]; exact (List.getElem?_eq_some_iff.1 hu).1
    have hk : j / 3 < L.length := by omega
    obtain ⟨h1, h2, h3⟩ := costCells_at L (j / 3) hk
    obtain ⟨k1, k2, k3⟩ := hcell (j / 3) hk
    have h3c : j % 3 = 0 ∨ j % 3 = 1 ∨ j % 3 = 2 := by omega
    rcases h3c with hz | hz | hz
    · have ej : j / 3 * 3 = j := by omega
      rw [ej] at h1 k1
      rw [hu] at h1
      rw [k1, h1]
    · have ej : j / 3 * 3 + 1 = j := by omega
      rw [ej] at h2 k2
      rw [hu] at h2
      rw [k2, h2]
    · have ej : j / 3 * 3 + 2 = j := by omega
      rw [ej] at h3 k3
      rw [hu] at h3
      rw [k3, h3]
end
end Go.Proofs.YtccdnokddkpmgaaDoor
/- one line that costs something as an argument -/
set_option linter.all false
set_option maxRecDepth 100000
namespace Go.Proofs.YtccdnokddkpmgaaDoor
open Go.ChangeShapes Go.WideShapes Go.ChangeAt Go.RowKit Go.Deep
section
variable {H : Type} {enc : TypeId × Value → H} {P : Program} {W : World}
theorem open_cost_ {t : TypeId} {f0 f1 f2 : Field} {r : Reach} {b0 : Nat} {v : Value} {d : DataW H} {p : List MemPlace}
    (ht : P.underlying t = some (.struct #[f0, f1, f2])) (ce : P.cellsOf t = 3)
    (hf : (f0.offset = 0 ∧ P.cellsOf f0.type = 1) ∧ (f1.offset = 1 ∧ P.cellsOf f1.type = 1) ∧ (f2.offset = 2 ∧ P.cellsOf f2.type = 1))
    (u0 : P.underlying f0.type = some (.int .i64)) (u1 : P.underlying f1.type = some (.int .i64)) (u2 : P.underlying f2.type = some (.int .i64))
    (hv : Value.okWide P W r b0 t v) (h : DataW.Trod enc P W 0 (fun _ => true) true t v d p) :
    ∃ (x y z : Int), v = .agg #[.int .i64 x, .int .i64 y, .int .i64 z] := by
  obtain ⟨cs, rfl, hsz⟩ := okWide_struct ht hv
  obtain ⟨fuel, hfu⟩ := h
  obtain ⟨⟨o0, c0⟩, ⟨o1, c1⟩, ⟨o2, c2⟩⟩ := hf
  rw [ce] at hsz
  obtain ⟨l⟩ := cs
  match l, hsz with
  | [v0, v1, v2], _ =>
    obtain ⟨xs, k, hk, hxy, _, hxl, hff⟩ := DataW.trod_struct ht hfu
    match xs, hxl with
    | [y0, y1, y2], _ =>
      have g0 := hff 0 f0 rfl
      have g1 := hff 1 f1 rfl
      have g2 := hff 2 f2 rfl
      simp [Value.cells, o0, o1, o2, c0, c1, c2] at g0 g1 g2
      obtain ⟨z0, q0, _⟩ := DataW.trod_int u0 g0
      obtain ⟨z1, q1, _⟩ := DataW.trod_int u1 g1
      obtain ⟨z2, q2, _⟩ := DataW.trod_int u2 g2
      simp at q0 q1 q2
      subst q0; subst q1; subst q2
      exact ⟨z0, z1, z2, rfl⟩
end
end Go.Proofs.YtccdnokddkpmgaaDoor
