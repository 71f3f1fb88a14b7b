import Derived.Test.YtoiidngnlhhanaaSet2
import Derived.Test.YtoiidngnlhhanaaL2
import Derived.Test.YtoiidngnlhhanaaStillIn
import Derived.Test.YtoiidngnlhhanaaCP
set_option linter.all false
set_option maxRecDepth 100000
namespace Go.Proofs.Ytoiidngnlhhanaa
open Go.RowKit Go.Shelf Pl
attribute [local go_sem] Oper.semAt_some
/-- the types of whole's own boxes -/
def TB (t : TypeId) : Prop := t = 36 ∨ t = 39 ∨ t = 64
/-- what whole does by itself -/
structure KeepT (B : Nat) (W W' : World) : Prop where
  os : W'.os = W.os
  tape : W'.tape = W.tape
  output : W'.output = W.output
  size : W.heap.size ≤ W'.heap.size
  low : ∀ k, k < B → k < W.heap.size → W'.heap[k]? = W.heap[k]?
  cells : ∀ (k : Nat) (cs : Array Value) (t : TypeId) (f : Nat × Nat), ¬ TB t → W.heap[k]? = some (Obj.cells cs t f) → W'.heap[k]? = some (Obj.cells cs t f)
theorem KeepC.toT {B B' : Nat} {W W' : World} (h : KeepC B W W') (hB : B' ≤ B) : KeepT B' W W' :=
  ⟨h.os, h.tape, h.output, h.size, fun k h1 h2 => h.low k (by omega) h2, fun k cs t f _ hk => h.cells k cs t f hk⟩
theorem KeepT.of_below {B B' : Nat} {W W' : World} (h : Below B' W W') (hB : B ≤ B') (hc : W.heap.size ≤ B') : KeepT B W W' :=
  ⟨h.os, h.tape, h.output, h.size, fun k h1 _ => h.block k (by omega), fun k cs t f _ hk => (h.block k (by have := (Array.getElem?_eq_some_iff.1 hk).1; omega)).trans hk⟩
theorem KeepT.set {B b : Nat} {W : World} {t : TypeId} {v : Value} (hb : Boxed W b t v) (hB : B ≤ b) (ht : TB t) (u : Value) : KeepT B W (W.setCell ⟨b, 0, none⟩ u) :=
  ⟨rfl, rfl, rfl, by simp [World.setCell], fun k h1 _ => Below.heap_setCell W ⟨b, 0, none⟩ u k (by simp; omega), fun k cs t' f hn hk => by
    refine (Below.heap_setCell W ⟨b, 0, none⟩ u k ?_).trans hk
    intro e; simp at e; subst e
    unfold Boxed at hb; rw [hb] at hk; cases hk; exact hn ht⟩
theorem KeepT.drew (B : Nat) (W : World) : KeepT B W W.drew := ⟨rfl, rfl, rfl, Nat.le_refl _, fun _ _ _ => rfl, fun _ _ _ _ _ h => h⟩
/-- what is no cells, and the boxes of whole's types, stay -/
structure FrS (W W' : World) : Prop where
  size : W.heap.size ≤ W'.heap.size
  same : ∀ (k : Nat) (o : Obj), W.heap[k]? = some o → o.isCells = false → W'.heap[k]? = some o
  cells : ∀ (k : Nat) (cs : Array Value) (t : TypeId) (f : Nat × Nat), TB t → W.heap[k]? = some (Obj.cells cs t f) → W'.heap[k]? = some (Obj.cells cs t f)
theorem FrS.refl (W : World) : FrS W W := ⟨Nat.le_refl _, fun _ _ h _ => h, fun _ _ _ _ _ h => h⟩
theorem FrS.trans {X Y Z : World} (h : FrS X Y) (k : FrS Y Z) : FrS X Z :=
  ⟨Nat.le_trans h.size k.size, fun i o a b => k.same i o (h.same i o a b) b, fun i cs t f a b => k.cells i cs t f a (h.cells i cs t f a b)⟩
theorem FrS.of_below {W W' : World} (h : Below W.heap.size W W') : FrS W W' :=
  ⟨h.size, fun k o hk _ => (h.block k (Array.getElem?_eq_some_iff.1 hk).1).trans hk, fun k cs t f _ hk => (h.block k (Array.getElem?_eq_some_iff.1 hk).1).trans hk⟩
theorem FrS.keepC {w W W' : World} {B : Nat} (h : FrS w W) (k : KeepC B W W') (hB : w.heap.size ≤ B) : FrS w W' :=
  ⟨Nat.le_trans h.size k.size, fun i o a b => (k.low i (by have := (Array.getElem?_eq_some_iff.1 a).1; omega) (by have := (Array.getElem?_eq_some_iff.1 a).1; have := h.size; omega)).trans (h.same i o a b),
   fun i cs t f a b => k.cells i cs t f (h.cells i cs t f a b)⟩
theorem FrS.setCell {w W : World} (h : FrS w W) {b : Nat} (hb : w.heap.size ≤ b) (u : Value) : FrS w (W.setCell ⟨b, 0, none⟩ u) := by
  refine ⟨by simpa [World.setCell] using h.size, fun k o a ho => ?_, fun k cs t f a ho => ?_⟩
  · exact (Below.heap_setCell W ⟨b, 0, none⟩ u k (by have := (Array.getElem?_eq_some_iff.1 a).1; simp; omega)).trans (h.same k o a ho)
  · exact (Below.heap_setCell W ⟨b, 0, none⟩ u k (by have := (Array.getElem?_eq_some_iff.1 ho).1; simp; omega)).trans (h.cells k cs t f a ho)
theorem FrS.boxed {W W' : World} (h : FrS W W') {b : Nat} {t : TypeId} {v : Value} (ht : TB t) (hb : Boxed W b t v) : Boxed W' b t v := h.cells _ _ _ _ ht hb
theorem tb1 : TB 36 := .inl rfl
theorem tb2 : TB 39 := .inr (.inl rfl)
theorem tb3 : TB 64 := .inr (.inr rfl)
/-- what is asked of a client -/
structure Client (n₀ fe p : Nat) (J : List Nat → World → Prop) : Prop where
  enters : ∀ args w, (callFunc fe args).run Try.prog w = .ok (.enter fe args) w
  keep : ∀ pre W W', J pre W → KeepT n₀ W W' → J pre W'
  call : ∀ pre s W, s < 65536 → pre.length ≤ 1000000000000 → J pre W → Calls Try.prog fe #[.int .u64 ((s : Nat) : Int), .pointer (some ⟨p, 0, none⟩)] W fun e W' => (∃ v, e = .returned v) ∧ J (pre ++ [s]) W' ∧ FrS W W'
/-- the rows beside -/
def RowAt (W : World) (b : Nat) (bes : List Nat) : Prop := W.heap[b]? = some (.cells (maskCells bes) 39 (0, 0))
def feV (fe p : Nat) : Value := .func (.func fe) #[] #[.pointer (some ⟨p, 0, none⟩)]
def WholeOk (n₀ fe p : Nat) (J : List Nat → World → Prop) (b cap : Nat) (bes : List Nat) (d : Nat) : Prop :=
  ∀ (has may not : Nat) (pre : List Nat) (w : World), n₀ ≤ w.heap.size → pre.length + 16 ^ d ≤ 1000000000000 → (memb may).length ≤ d → has < 65536 → may < 65536 → not < 65536 → (∀ i ∈ memb may, i < bes.length) → J pre w → RowAt w b bes →
    Calls Try.prog 34 #[.slice (some ⟨b, 0, none⟩) bes.length cap, .int .u64 (has : Int), .int .u64 (may : Int), .int .u64 (not : Int), .func (.func fe) #[] #[.pointer (some ⟨p, 0, none⟩)]] w fun e w' =>
      (∃ v, e = .returned v) ∧ J (pre ++ wholeM bes d has may not) w' ∧ FrS w w'
/-- the boxes of a call -/
structure Boxes (w : World) (fe p b cap len has may not : Nat) (W : World) : Prop where
  b5 : Boxed W w.heap.size 36 (.slice (some ⟨b, 0, none⟩) len cap)
  b6 : Boxed W (w.heap.size + 1) 39 (.int .u64 (has : Int))
  b7 : Boxed W (w.heap.size + 1 + 1) 39 (.int .u64 (may : Int))
  b8 : Boxed W (w.heap.size + 1 + 1 + 1) 39 (.int .u64 (not : Int))
  b9 : Boxed W (w.heap.size + 1 + 1 + 1 + 1) 64 (.func (.func fe) #[] #[.pointer (some ⟨p, 0, none⟩)])
theorem Boxes.keepC {w W W' : World} {fe p b cap len has may not B : Nat} (h : Boxes w fe p b cap len has may not W) (k : KeepC B W W') : Boxes w fe p b cap len has may not W' :=
  ⟨k.cells _ _ _ _ h.b5, k.cells _ _ _ _ h.b6, k.cells _ _ _ _ h.b7, k.cells _ _ _ _ h.b8, k.cells _ _ _ _ h.b9⟩
theorem Boxes.frS {w W W' : World} {fe p b cap len has may not : Nat} (h : Boxes w fe p b cap len has may not W) (k : FrS W W') : Boxes w fe p b cap len has may not W' :=
  ⟨k.boxed tb1 h.b5, k.boxed tb2 h.b6, k.boxed tb2 h.b7, k.boxed tb2 h.b8, k.boxed tb3 h.b9⟩
theorem Boxes.step {w W : World} {fe p b cap len has m1 m2 : Nat} (h : Boxes w fe p b cap len has m1 m2 W) (n1 n2 : Nat) :
    Boxes w fe p b cap len has n1 n2 ((W.setCell ⟨w.heap.size + 1 + 1, 0, none⟩ (.int .u64 (n1 : Int))).setCell ⟨w.heap.size + 1 + 1 + 1, 0, none⟩ (.int .u64 (n2 : Int))) :=
  ⟨(h.b5.other (by omega) _).other (by omega) _, (h.b6.other (by omega) _).other (by omega) _, (h.b7.set _).other (by omega) _, (h.b8.other (by omega) _).set _, (h.b9.other (by omega) _).other (by omega) _⟩
theorem memb_zero {m : Nat} (hm : m < 65536) (h : memb m = []) : m = 0 := by
  apply Nat.eq_of_testBit_eq; intro i
  rw [Nat.zero_testBit]
  cases hb : m.testBit i
  · rfl
  · have := (mem_memb hm).2 hb; rw [h] at this; cases this
theorem wholeM_nil (bes : List Nat) (d has not : Nat) : wholeM bes d has 0 not = if not = 0 then [has] else [] := by
  cases d <;> simp [wholeM]
theorem wholeM_more (bes : List Nat) (d has may not : Nat) (h : may ≠ 0) : wholeM bes (d+1) has may not = (wfold (wholeM bes d) bes has may not (memb may)).1 := by
  simp [wholeM, h]
theorem Boxes.drew {w W : World} {fe p b cap len has m1 m2 : Nat} (h : Boxes w fe p b cap len has m1 m2 W) : Boxes w fe p b cap len has m1 m2 W.drew := ⟨h.b5, h.b6, h.b7, h.b8, h.b9⟩
def boxed5 (w : World) (fe p b cap len has may not : Nat) : World :=
  ((((w.alloc (.cells #[.slice (some ⟨b, 0, none⟩) len cap] 36)).alloc (.cells #[.int .u64 (has : Int)] 39)).alloc (.cells #[.int .u64 (may : Int)] 39)).alloc (.cells #[.int .u64 (not : Int)] 39)).alloc (.cells #[.func (.func fe) #[] #[.pointer (some ⟨p, 0, none⟩)]] 64)
theorem boxed5_size (w : World) (fe p b cap len has may not : Nat) : (boxed5 w fe p b cap len has may not).heap.size = w.heap.size + 5 := by simp [boxed5]
theorem boxed5_boxes (w : World) (fe p b cap len has may not : Nat) : Boxes w fe p b cap len has may not (boxed5 w fe p b cap len has may not) := by
  unfold boxed5
  refine ⟨?_, ?_, ?_, ?_, ?_⟩
  · exact ((((Boxed.new w _ _).alloc _).alloc _).alloc _).alloc _
  · have := ((((Boxed.new (w.alloc (.cells #[.slice (some ⟨b, 0, none⟩) len cap] 36)) 39 (.int .u64 (has : Int))).alloc (.cells #[.int .u64 (may : Int)] 39)).alloc (.cells #[.int .u64 (not : Int)] 39)).alloc (.cells #[.func (.func fe) #[] #[.pointer (some ⟨p, 0, none⟩)]] 64))
    simpa using this
  · have := (((Boxed.new ((w.alloc (.cells #[.slice (some ⟨b, 0, none⟩) len cap] 36)).alloc (.cells #[.int .u64 (has : Int)] 39)) 39 (.int .u64 (may : Int))).alloc (.cells #[.int .u64 (not : Int)] 39)).alloc (.cells #[.func (.func fe) #[] #[.pointer (some ⟨p, 0, none⟩)]] 64))
    simpa using this
  · have := ((Boxed.new (((w.alloc (.cells #[.slice (some ⟨b, 0, none⟩) len cap] 36)).alloc (.cells #[.int .u64 (has : Int)] 39)).alloc (.cells #[.int .u64 (may : Int)] 39)) 39 (.int .u64 (not : Int))).alloc (.cells #[.func (.func fe) #[] #[.pointer (some ⟨p, 0, none⟩)]] 64))
    simpa using this
  · have := (Boxed.new ((((w.alloc (.cells #[.slice (some ⟨b, 0, none⟩) len cap] 36)).alloc (.cells #[.int .u64 (has : Int)] 39)).alloc (.cells #[.int .u64 (may : Int)] 39)).alloc (.cells #[.int .u64 (not : Int)] 39)) 64 (.func (.func fe) #[] #[.pointer (some ⟨p, 0, none⟩)]))
    simpa using this
theorem boxed5_below (w : World) (fe p b cap len has may not : Nat) : Below w.heap.size w (boxed5 w fe p b cap len has may not) := by
  unfold boxed5
  exact (((((Below.refl _ w).alloc (Nat.le_refl _) _).alloc (by simp) _).alloc (by simp; omega) _).alloc (by simp; omega) _).alloc (by simp; omega) _
end Go.Proofs.Ytoiidngnlhhanaa
