import Derived.Test.YtekfgkeimlidhaaGreatDoorOwn
import Derived.Test.YtekfgkeimlidhaaGreatDoorL1
import Derived.Deep.LoopGhost
import Derived.LoopTactic
import Derived.Deep.Cut
set_option linter.all false
set_option maxRecDepth 100000
namespace Go.Proofs.YtekfgkeimlidhaaGreatDoor
open Go.RowKit
/-! ### plain words of the models -/
/-- the element at i, if there is one -/
def ix {α : Type} (l : List α) (i : Int) : Option α := if 0 ≤ i then l[i.toNat]? else none
theorem ix_some {α : Type} {l : List α} {i : Int} {x : α} (h : ix l i = some x) : 0 ≤ i ∧ i < (l.length : Int) ∧ l[i.toNat]? = some x := by
  unfold ix at h
  split at h
  · rename_i h0
    obtain ⟨h1, h2⟩ := List.getElem?_eq_some_iff.1 h
    exact ⟨h0, by omega, h⟩
  · cases h
theorem ix_nat {α : Type} {l : List α} {k : Nat} (h : k < l.length) : ix l (k : Int) = some l[k] := by
  unfold ix; rw [if_pos (Int.natCast_nonneg _), Int.toNat_natCast, List.getElem?_eq_getElem h]
theorem obind {α β : Type} {o : Option α} {k : α → Option β} {r : β} (h : o.bind k = some r) : ∃ v, o = some v ∧ k v = some r := by
  cases o with
  | none => cases h
  | some v => exact ⟨v, rfl, h⟩
theorem ifT {α : Type} {c : Prop} [Decidable c] {a b r : α} (hc : c) (h : (if c then a else b) = r) : a = r := (if_pos hc).symm.trans h
theorem ifF {α : Type} {c : Prop} [Decidable c] {a b r : α} (hc : ¬ c) (h : (if c then a else b) = r) : b = r := (if_neg hc).symm.trans h
theorem bF {b : Bool} (h : b = false) : ¬ b = true := by rw [h]; exact Bool.false_ne_true
/-- a list made longer by one, if it is not too long -/
def app {α : Type} (l : List α) (x : α) : Option (List α) := if l.length < 1000000000 then some (l ++ [x]) else none
theorem app_some {α : Type} {l r : List α} {x : α} (h : app l x = some r) : l.length < 1000000000 ∧ l ++ [x] = r := by
  unfold app at h; split at h
  · exact ⟨by assumption, Option.some.inj h⟩
  · cases h
/-! ### worlds -/
/-- the same but for draws -/
def Dr (w W : World) : Prop := ∃ m, W = w.drewN m
theorem Dr.refl (w : World) : Dr w w := ⟨0, rfl⟩
theorem Dr.trans {a b c : World} (h : Dr a b) (k : Dr b c) : Dr a c := by
  obtain ⟨m, rfl⟩ := h; obtain ⟨n, rfl⟩ := k; exact ⟨m + n, World.drewN_drewN _ _ _⟩
theorem Dr.reads {w W : World} {B s n : Nat} {A : Option Addr} {xs : List Value} (h : Dr w W) (hr : Reads w B s A n xs) : Reads W B s A n xs := by
  obtain ⟨m, rfl⟩ := h; exact hr
theorem Dr.size {w W : World} (h : Dr w W) : W.heap.size = w.heap.size := by obtain ⟨m, rfl⟩ := h; rfl
theorem Dr.below {w W : World} (h : Dr w W) (B : Nat) : Below B w W := by
  obtain ⟨m, rfl⟩ := h
  exact ⟨rfl, rfl, rfl, Nat.le_refl _, fun _ _ => rfl⟩
theorem rdI {w W : World} {A : Option Addr} {l : List Int} (h : Below w.heap.size w W) (hr : ReadsI w w.heap.size A l) : ReadsI W W.heap.size A l := Reads.more (Reads.below hr h) h.size
theorem rdL {w W : World} {A : Option Addr} {l : List (Int × Int)} (h : Below w.heap.size w W) (hr : ReadsL w w.heap.size A l) : ReadsL W W.heap.size A l := Reads.more (Reads.below hr h) h.size
theorem ReadsI.ix {W : World} {B : Nat} {A : Option Addr} {l : List Int} {i x : Int} (h : ReadsI W B A l) (hx : ix l i = some x) :
    ∃ b o, A = some ⟨b, o, none⟩ ∧ b < B ∧ 0 ≤ i ∧ i < (l.length : Int) ∧ W.cell? ⟨b, o + i.toNat, none⟩ = some (.int .i64 x) := by
  obtain ⟨h0, h1, h2⟩ := ix_some hx
  obtain ⟨h3, h4⟩ := List.getElem?_eq_some_iff.1 h2
  obtain ⟨b, o, e, hb, hc⟩ := h.at_ h3
  exact ⟨b, o, e, hb, h0, h1, by rw [hc, h4]⟩
theorem ReadsL.ix {W : World} {B : Nat} {A : Option Addr} {l : List (Int × Int)} {i : Int} {x : Int × Int} (h : ReadsL W B A l) (hx : ix l i = some x) :
    ∃ b o, A = some ⟨b, o, none⟩ ∧ b < B ∧ 0 ≤ i ∧ i < (l.length : Int) ∧ W.cell? ⟨b, o + i.toNat * 2, none⟩ = some (.int .i64 x.1) ∧ W.cell? ⟨b, o + i.toNat * 2 + 1, none⟩ = some (.int .i64 x.2) := by
  obtain ⟨h0, h1, h2⟩ := ix_some hx
  obtain ⟨h3, h4⟩ := List.getElem?_eq_some_iff.1 h2
  obtain ⟨b, o, e, hb, hc, hd⟩ := ReadsL.at_ h h3
  exact ⟨b, o, e, hb, h0, h1, by rw [hc, h4], by rw [hd, h4]⟩
/-- remainder, where the divisor is not 0 -/
def md (a b : Int) : Option Int := if b = 0 then none else some (a.tmod b)
def dv (a b : Int) : Option Int := if b = 0 then none else some (wrap64 (a.tdiv b))
theorem md_some {a b r : Int} (h : md a b = some r) : b ≠ 0 ∧ a.tmod b = r := by
  unfold md at h; split at h
  · cases h
  · exact ⟨by assumption, Option.some.inj h⟩
theorem dv_some {a b r : Int} (h : dv a b = some r) : b ≠ 0 ∧ wrap64 (a.tdiv b) = r := by
  unfold dv at h; split at h
  · cases h
  · exact ⟨by assumption, Option.some.inj h⟩
/-- a list of lists of ints, read -/
def ReadsR (W : World) (B : Nat) (A : Option Addr) (ls : List (List Int)) : Prop :=
  ∃ vs, Reads W B 1 A ls.length vs ∧ ∀ (k : Nat) (l : List Int), ls[k]? = some l → ∃ A' cap', vs[k]? = some (.slice A' l.length cap') ∧ ReadsI W B A' l ∧ l.length ≤ cap'
theorem rdR {w W : World} {A : Option Addr} {l : List (List Int)} (h : Below w.heap.size w W) (hr : ReadsR w w.heap.size A l) : ReadsR W W.heap.size A l := by
  obtain ⟨vs, h1, h2⟩ := hr
  refine ⟨vs, Reads.more (Reads.below h1 h) h.size, fun k l hl => ?_⟩
  obtain ⟨A', c, e, h3, h4⟩ := h2 k l hl
  exact ⟨A', c, e, rdI h h3, h4⟩
theorem ReadsR.drewN {w : World} {B : Nat} {A : Option Addr} {l : List (List Int)} (h : ReadsR w B A l) (m : Nat) : ReadsR (w.drewN m) B A l := h
theorem ReadsI.drewN' {w : World} {B : Nat} {A : Option Addr} {l : List Int} (h : ReadsI w B A l) (m : Nat) : ReadsI (w.drewN m) B A l := h
theorem ReadsL.drewN' {w : World} {B : Nat} {A : Option Addr} {l : List (Int × Int)} (h : ReadsL w B A l) (m : Nat) : ReadsL (w.drewN m) B A l := h
theorem ReadsR.ixc {W : World} {B : Nat} {A : Option Addr} {l : List (List Int)} {i : Int} {x : List Int} (h : ReadsR W B A l) (hx : ix l i = some x) :
    ∃ b o A' cap', A = some ⟨b, o, none⟩ ∧ b < B ∧ 0 ≤ i ∧ i < (l.length : Int) ∧ W.cell? ⟨b, o + i.toNat, none⟩ = some (.slice A' x.length cap') ∧ ReadsI W B A' x ∧ x.length ≤ cap' := by
  obtain ⟨h0, h1, h2⟩ := ix_some hx
  obtain ⟨vs, hr, hk⟩ := h
  obtain ⟨A', c, e, h3, h4⟩ := hk _ _ h2
  obtain ⟨b, o, ea, hb, hc⟩ := hr.2 (by omega)
  exact ⟨b, o, A', c, ea, hb, h0, h1, hc _ _ e, h3, h4⟩
theorem ReadsR.ix {W : World} {B : Nat} {A : Option Addr} {l : List (List Int)} {i : Int} {x : List Int} (h : ReadsR W B A l) (hx : ix l i = some x) :
    ∃ b o A' cap', A = some ⟨b, o, none⟩ ∧ b < B ∧ 0 ≤ i ∧ i < (l.length : Int) ∧ W.cell? ⟨b, o + i.toNat, none⟩ = some (.slice A' x.length cap') ∧ ReadsI W B A' x := by
  obtain ⟨b, o, A', c, h1, h2, h3, h4, h5, h6, _⟩ := h.ixc hx
  exact ⟨b, o, A', c, h1, h2, h3, h4, h5, h6⟩
theorem cell_new {W : World} {cs : Array Value} {t : TypeId} : ∀ (k : Nat) (u : Value), cs[k]? = some u → (W.alloc (.cells cs t)).cell? ⟨W.heap.size, k, none⟩ = some u := by
  intro k u hu
  rw [cell_of_row _ _ _ _ _ _ (heap_alloc_new W _)]; exact hu
theorem litI (W : World) (l : List Int) (t : TypeId) : ReadsI (W.alloc (.cells (l.map (Value.int .i64)).toArray t)) (W.alloc (.cells (l.map (Value.int .i64)).toArray t)).heap.size (some ⟨W.heap.size, 0, none⟩) l := lit_reads l t W
theorem quiet_left {P : Program} {f : FuncId} {args : Array Value} {w : World} {n : Nat} {v : Value}
    (h : Calls P f args (w.drewN n) fun e w' => e = .returned v ∧ w.drewN n = w') : Calls P f args (w.drewN n) fun e w'' => e = .returned v ∧ ∃ m, w'' = w.drewN m :=
  h.mono fun _ _ ⟨he, hm⟩ => ⟨he, n, hm.symm⟩
theorem quiet_dr {P : Program} {f : FuncId} {args : Array Value} {w : World} {n : Nat} {v : Value}
    (h : Calls P f args (w.drewN n) fun e w' => e = .returned v ∧ Dr (w.drewN n) w') : Calls P f args (w.drewN n) fun e w'' => e = .returned v ∧ ∃ m, w'' = w.drewN m :=
  h.mono fun _ _ ⟨he, m, hm⟩ => ⟨he, n + m, by rw [hm, World.drewN_drewN]⟩
end Go.Proofs.YtekfgkeimlidhaaGreatDoor
