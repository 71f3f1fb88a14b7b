import Derived.Test.YtekfgkeimlidhaaGreatDoorWords
import Derived.ProofKit
import Derived.OpenShut
import Derived.SizedLaws
set_option linter.all false
set_option maxRecDepth 100000
namespace Go.Proofs.YtekfgkeimlidhaaGreatDoor
open Go.ChangeShapes Go.WideShapes Go.ChangeAt Go.RowKit

section
variable {H : Type} {enc : TypeId × Value → H} {P : Program} {W : World}
theorem open_ints_ {t e : TypeId} {r : Reach} {b0 : Nat} {v : Value} {d : DataW H} {p : List MemPlace}
    (ht : P.underlying t = some (.slice e)) (he : P.underlying e = some (.int .i64)) (hc : P.cellsOf e = 1)
    (hv : Value.okWide P W r b0 t v) (h : DataW.Trod enc P W 0 (fun _ => true) true t v d p) :
    ∃ (A : Option Addr) (cap : Nat) (l : List Int), v = .slice A l.length cap ∧ ReadsI W W.heap.size A l ∧ l.length ≤ maxLen ∧ ∀ n ∈ l, (Lit.int .i64 n).wf = true := by
  obtain ⟨a, len, cap, rfl⟩ := okWide_slice ht hv
  obtain ⟨fuel, hf⟩ := h
  rcases open_ints ht he hc hf with ⟨hcs, _⟩ | ⟨x, l, c, zs, hcs, _, hl, hm, hz, _, hcell, hwz⟩
  · simp [Value.cells] at hcs
    obtain ⟨rfl, rfl, rfl⟩ := hcs
    exact ⟨none, 0, [], rfl, ⟨rfl, fun h => by simp at h⟩, by simp, by simp⟩
  · simp [Value.cells] at hcs
    obtain ⟨rfl, rfl, rfl⟩ := hcs
    simp at hz
    have hlen : (zs.take len).length = len := by simp; omega
    refine ⟨some x, cap, zs.take len, by rw [hlen], ⟨by simp, fun hp => ?_⟩, by rw [hlen]; omega, fun n hn => hwz n (List.mem_of_mem_take hn)⟩
    rw [hlen] at hp
    obtain ⟨b, off, rfl, hcell2⟩ := ints_at hcell (by omega)
    refine ⟨b, off, rfl, World.block_lt_of_cell? _ _ (hcell2 0 (by omega)), fun j u hu => ?_⟩
    have hj : j < len := by
      have := (List.getElem?_eq_some_iff.1 hu).1
      simp at this; omega
    rw [hcell2 j (by omega)]
    simp [List.getElem?_take, hj] at hu
    obtain ⟨y, hy, rfl⟩ := hu
    simp [hy]
theorem open_ints_z {t e : TypeId} {r : Reach} {b0 : Nat} {v : Value} {d : DataW H} {p : List MemPlace} {ts : List TypeId} {ds : List (DataW H)} {j : Nat}
    (ht : P.underlying t = some (.slice e)) (he : P.underlying e = some (.int .i64)) (hc : P.cellsOf e = 1)
    (hv : Value.okWide P W r b0 t v) (h : DataW.Trod enc P W 0 (fun _ => true) true t v d p)
    (hz : (DataW.weightsEach P ts ds).all (· ≤ reachBytes) = true) (hj : ts[j]? = some t) (hd : ds[j]? = some d) (hb : P.bytesOf e = 8) :
    ∃ (A : Option Addr) (cap : Nat) (l : List Int), v = .slice A l.length cap ∧ ReadsI W W.heap.size A l ∧ l.length ≤ 17592186044416 ∧ ∀ n ∈ l, (Lit.int .i64 n).wf = true := by
  obtain ⟨A, cap, l, rfl, h1, h2, h3⟩ := open_ints_ ht he hc hv h
  refine ⟨A, cap, l, rfl, h1, ?_, h3⟩
  obtain ⟨fuel, hf⟩ := h
  rcases open_ints ht he hc hf with ⟨hcs, _⟩ | ⟨x, l', c, zs, hcs, _, hl, hm, hzl, hx, _, _⟩
  · simp [Value.cells] at hcs
    obtain ⟨_, e, _⟩ := hcs
    subst e; simp
  · simp [Value.cells] at hcs
    obtain ⟨_, e, _⟩ := hcs
    have hds := (Prod.mk.inj hx).1
    subst hds
    have := sized_slice hz hj hd ht
    rw [hb] at this
    simp at hzl
    unfold reachBytes at this
    simp only [lits, List.length_map, List.length_take, List.length_drop] at this
    omega
theorem open_ints_zc {t e : TypeId} {r : Reach} {b0 : Nat} {v : Value} {d : DataW H} {p : List MemPlace} {ts : List TypeId} {ds : List (DataW H)} {j : Nat}
    (ht : P.underlying t = some (.slice e)) (he : P.underlying e = some (.int .i64)) (hc : P.cellsOf e = 1)
    (hv : Value.okWide P W r b0 t v) (h : DataW.Trod enc P W 0 (fun _ => true) true t v d p)
    (hz : (DataW.weightsEach P ts ds).all (· ≤ reachBytes) = true) (hj : ts[j]? = some t) (hd : ds[j]? = some d) (hb : P.bytesOf e = 8) :
    ∃ (A : Option Addr) (cap : Nat) (l : List Int), v = .slice A l.length cap ∧ ReadsI W W.heap.size A l ∧ l.length ≤ 17592186044416 ∧ l.length ≤ cap ∧ ∀ n ∈ l, (Lit.int .i64 n).wf = true := by
  obtain ⟨A, cap, l, rfl, h1, h2, h3⟩ := open_ints_ ht he hc hv h
  refine ⟨A, cap, l, rfl, h1, ?_, ?_, h3⟩
  rotate_left
  · obtain ⟨fuel, hf⟩ := h
    rcases open_ints ht he hc hf with ⟨hcs, _⟩ | ⟨x, l', c, zs, hcs, _, hl, hm, hzl, hx, _, _⟩
    · simp [Value.cells] at hcs
      obtain ⟨_, e1, _⟩ := hcs
      subst e1; simp
    · simp [Value.cells] at hcs
      obtain ⟨_, e1, e2⟩ := hcs
      omega
  obtain ⟨fuel, hf⟩ := h
  rcases open_ints ht he hc hf with ⟨hcs, _⟩ | ⟨x, l', c, zs, hcs, _, hl, hm, hzl, hx, _, _⟩
  · simp [Value.cells] at hcs
    obtain ⟨_, e, _⟩ := hcs
    subst e; simp
  · simp [Value.cells] at hcs
    obtain ⟨_, e, _⟩ := hcs
    have hds := (Prod.mk.inj hx).1
    subst hds
    have := sized_slice hz hj hd ht
    rw [hb] at this
    simp at hzl
    unfold reachBytes at this
    simp only [lits, List.length_map, List.length_take, List.length_drop] at this
    omega
end
end Go.Proofs.YtekfgkeimlidhaaGreatDoor
