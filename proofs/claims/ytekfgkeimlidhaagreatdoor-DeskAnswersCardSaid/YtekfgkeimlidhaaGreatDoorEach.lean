import Derived.Test.YtekfgkeimlidhaaGreatDoorS0
import Derived.RangeFuncNested
import Derived.RangeFuncBound
import Derived.RangeFuncCalls
import Derived.RangeFuncLeaves
import Derived.Shelf.Abstract
import Derived.Shelf.RegionOpen
import Derived.OwnWalkIn
import Derived.TacticsInMore
import Derived.LoopNIn
import Derived.LoopIn
set_option linter.all false
set_option maxRecDepth 100000
namespace Go.Proofs.YtekfgkeimlidhaaGreatDoor
open Go.RowKit Go.Shelf Pl
attribute [local go_sem] Oper.semAt_some
/-- a point of a set -/
abbrev Pt (m : Nat) := { x : Nat // x ∈ memb m }
theorem pts_ex {m : Nat} : ∀ (l : List Nat), (∀ x ∈ l, x ∈ memb m) → ∃ p : List (Pt m), p.map (·.1) = l
  | [], _ => ⟨[], rfl⟩
  | x :: l, h => by
    obtain ⟨p, hp⟩ := pts_ex l (fun y hy => h y (List.mem_cons_of_mem _ hy))
    exact ⟨⟨x, h x List.mem_cons_self⟩ :: p, by simp [hp]⟩
theorem memb_lt {m x : Nat} (h : x ∈ memb m) : x < 16 := by
  unfold memb at h; rw [List.mem_filter] at h; simpa using h.1
theorem membTo_len (m k : Nat) : (membTo m k).length ≤ k := by
  unfold membTo; have := List.length_filter_le (fun i => m.testBit i) (List.range k); simpa using this
theorem membTo_pre {m k : Nat} (hk : k ≤ 16) : membTo m k <+: memb m := by
  unfold membTo memb
  have e : List.range 16 = List.range k ++ (List.range (16 - k)).map (k + ·) := by
    rw [← List.range_add]; congr 1; omega
  rw [e, List.filter_append]
  exact List.prefix_append _ _
theorem memb_len (m : Nat) : (memb m).length ≤ 16 := by
  unfold memb; have := List.length_filter_le (fun i => m.testBit i) (List.range 16); simpa using this
/-- the cell of box b is kept -/
def Bk (b : Nat) (W W' : World) : Prop := ∀ v, W.cell? ⟨b, 0, none⟩ = some v → W'.cell? ⟨b, 0, none⟩ = some v
set_option maxRecDepth 100000 in
set_option maxHeartbeats 2000000 in
theorem each1_in (n : Nat) (hn : 1 ≤ n) (l Bs m : Nat) (hm : m < 65536) (J Jx : List (Pt m) → World → Prop)
    (hY : ∀ pre (x : Pt m) W, J pre W → pre.length < 16 → YieldAt Fence.wide (n - 1) Tryz.prog l #[.int .i64 (x.1 : Int)] W fun e W' =>
      (e = .returned (.bool true) ∧ J (pre ++ [x]) W' ∧ Bk Bs W W') ∨ (e = .returned (.bool false) ∧ Jx (pre ++ [x]) W'))
    (W : World) (hBs : W.cell? ⟨Bs, 0, none⟩ = some (setV m)) (h0 : J [] W) :
    CallsIn Fence.wide n Tryz.prog 80 #[.func (.yield l) #[] #[], .pointer (some ⟨Bs, 0, none⟩)] W fun e W' => (∃ v, e = .returned v) ∧
      ((∃ xs : List (Pt m), xs.map (·.1) = memb m ∧ J xs W') ∨ (∃ pre : List (Pt m), pre.map (·.1) <+: memb m ∧ Jx pre W')) := by
  refine callsIn_of_wp Tryz.func80 rfl trivial ?_ rfl
  simp only [Tryz.ntmps80, List.size_toArray, List.length_cons, List.length_nil, Nat.reduceAdd, Nat.reduceSub, Array.replicate_succ, Array.replicate_zero, List.push_toArray, List.append_toArray, List.nil_append, List.cons_append]
  unfold setV at hBs
  gi_wp2
  gi_loopw [3] (fun i wr => ∃ (k : Nat) (pre : List (Pt m)), k ≤ 16 ∧ i = .int .i64 k ∧ pre.map (·.1) = membTo m k ∧ J pre wr ∧ wr.cell? ⟨Bs, 0, none⟩ = some (.int .u64 (m : Int)))
    (fun i _ => 16 - (intOf i).toNat)
  case atStart => exact ⟨0, [], Nat.zero_le _, rfl, rfl, h0, hBs⟩
  case round =>
    obtain ⟨k, pre, hk, rfl, hpre, hJ, hcx⟩ := hrel
    have HCX := Lib.hid hcx
    have hlen : pre.length ≤ k := by have := congrArg List.length hpre; simp at this; have := membTo_len m k; omega
    have HP := Lib.hid hpre; clear hpre
    by_cases hz : m / 2 ^ k = 0
    · have hzb : (((m : Int) / 2 ^ k) != 0) = false := by
        have e : ((m : Int) / 2 ^ k) = ((m / 2 ^ k : Nat) : Int) := by norm_cast
        rw [e, hz]; rfl
      have HZ := Lib.hid hz; clear hz
      gi_wp2
      go_end0
      exact ⟨⟨_, rfl⟩, .inl ⟨pre, by rw [HP.out, membTo_full hm HZ.out hk], hJ⟩⟩
    · have hk16 : k < 16 := by
        rcases Nat.lt_or_ge k 16 with h | h
        · exact h
        · exact absurd (div_pow_zero hm h) hz
      have hzb : (((m : Int) / 2 ^ k) != 0) = true := by
        have e : ((m : Int) / 2 ^ k) = ((m / 2 ^ k : Nat) : Int) := by norm_cast
        rw [e]; simp; omega
      have HZ := Lib.hid hz; clear hz
      cases hbit : m.testBit k
      · have HS : Hid (membTo m (k+1) = membTo m k) := by show _ = _; rw [membTo_succ, hbit]; simp
        have HB2 := Lib.hid hbit; clear hbit
        gi_wp2_with (first | (refine ⟨trivial, ?_⟩; gi_at_call 57; refine (callsIn_wide.2 (has_dec HB2.out _ hm (by omega))).mono ?_; rintro e w' ⟨rfl, rfl⟩))
        refine ⟨fun _ h => (by cases h), ?_⟩
        gi_wp2
        go_roundw
        case rel => exact ⟨k + 1, pre, by omega, by go_num, by rw [HS.out, HP.out], hJ, HCX.out⟩
        case measure => simp [intOf] <;> omega
      · have hmem : k ∈ memb m := (mem_memb hm).2 hbit
        have HS : Hid (membTo m (k+1) = membTo m k ++ [k]) := by show _ = _; rw [membTo_succ, hbit]; simp
        obtain ⟨fn, tmps, assign, body, hy, hR⟩ := hY pre ⟨k, hmem⟩ wr hJ (by omega)
        dsimp only at hy
        have HB2 := Lib.hid hbit; clear hbit
        gi_wp2_with (first | (refine ⟨trivial, ?_⟩; gi_at_call 57; refine (callsIn_wide.2 (has_dec HB2.out _ hm (by omega))).mono ?_; rintro e w' ⟨rfl, rfl⟩))
        gi_wp2
        refine hR.mono ?_
        rintro e W3 (⟨rfl, hJ3, hk3⟩ | ⟨rfl, hJx3⟩)
        · gi_wp2
          go_roundw
          case rel => exact ⟨k + 1, pre ++ [⟨k, hmem⟩], by omega, by go_num, by rw [HS.out, ← HP.out]; simp, hJ3, hk3 _ HCX.out⟩
          case measure => simp [intOf] <;> omega
        · gi_wp2
          refine bodyPost_ret (results_none rfl _ _ _) rfl ?_
          refine ⟨⟨_, rfl⟩, .inr ⟨pre ++ [⟨k, hmem⟩], ?_, hJx3⟩⟩
          have := membTo_pre (m := m) (k := k + 1) (by omega)
          rw [HS.out, ← HP.out] at this
          simpa using this
theorem each_any (m : Nat) (w : World) :
    Calls Tryz.prog 62 #[.int .u64 (m : Int)] w fun e w' => e = .returned (.func (.func 80) #[] #[.pointer (some ⟨w.heap.size, 0, none⟩)]) ∧ w.alloc (.cells #[.int .u64 (m : Int)] 48) = w' := by
  go_enter Tryz.func62, Tryz.ntmps62
  go_wp2
  go_ret
  exact ⟨rfl, rfl⟩
theorem each_stops (n : Nat) (hn : 1 ≤ n) (Bs m : Nat) (hm : m < 65536) (w : World) (hc : w.cell? ⟨Bs, 0, none⟩ = some (setV m)) :
    SeqStopsK Fence.wide n Tryz.prog 80 #[.pointer (some ⟨Bs, 0, none⟩)] (fun x : Pt m => #[.int .i64 (x.1 : Int)]) (Bk Bs)
      (fun xs => xs.map (·.1) = memb m) (fun pre => pre.map (·.1) <+: memb m) 16 w := by
  intro l J Jx W hW hJ hJx hY h0
  have hlt := World.block_lt_of_cell? _ _ hc
  exact each1_in n hn l Bs m hm J Jx hY W ((hW.cell (p := ⟨Bs, 0, none⟩) hlt).trans hc) h0

/-! ### what is no cells from B on may turn -/
structure KeepC (B : Nat) (W W' : World) : Prop where
  os : W'.os = W.os
  tape : W'.tape = W.tape
  output : W'.output = W.output
  size : W.heap.size ≤ W'.heap.size
  low : ∀ k, k < B → k < W.heap.size → W'.heap[k]? = W.heap[k]?
  cells : ∀ (k : Nat) (cs : Array Value) (t : TypeId) (f : Nat × Nat), W.heap[k]? = some (Obj.cells cs t f) → W'.heap[k]? = some (Obj.cells cs t f)
theorem KeepC.refl (B : Nat) (W : World) : KeepC B W W := ⟨rfl, rfl, rfl, Nat.le_refl _, fun _ _ _ => rfl, fun _ _ _ _ h => h⟩
theorem KeepC.trans {B : Nat} {X Y Z : World} (h : KeepC B X Y) (k : KeepC B Y Z) : KeepC B X Z :=
  ⟨k.os.trans h.os, k.tape.trans h.tape, k.output.trans h.output, Nat.le_trans h.size k.size, fun i h1 h2 => (k.low i h1 (Nat.lt_of_lt_of_le h2 h.size)).trans (h.low i h1 h2), fun i cs t f hh => k.cells i cs t f (h.cells i cs t f hh)⟩
theorem KeepC.weak {B B' : Nat} {W W' : World} (h : KeepC B W W') (hB : B' ≤ B) : KeepC B' W W' := ⟨h.os, h.tape, h.output, h.size, fun k h1 h2 => h.low k (Nat.lt_of_lt_of_le h1 hB) h2, h.cells⟩
theorem KeepC.below {B B0 : Nat} {w W W' : World} (h : KeepC B W W') (hb : Below B0 w W) (hB : B0 ≤ B) (hw : B0 ≤ w.heap.size) : Below B0 w W' :=
  ⟨h.os.trans hb.os, h.tape.trans hb.tape, h.output.trans hb.output, Nat.le_trans hb.size h.size, fun k hk => (h.low k (by omega) (by have := hb.size; omega)).trans (hb.block k hk)⟩
theorem KeepC.cell {B : Nat} {W W' : World} (h : KeepC B W W') {a : Addr} {v : Value} (hc : W.cell? a = some v) : W'.cell? a = some v := by
  cases hb : W.heap[a.block]? with
  | none => simp [World.cell?, hb] at hc
  | some o =>
    cases o with
    | cells cs t f =>
      have := h.cells _ _ _ _ hb
      rw [World.cell?_of_block (w := W) (this.trans hb.symm)]; exact hc
    | _ => simp [World.cell?, hb] at hc
theorem KeepC.own {B base size n : Nat} {W W' : World} {e : TypeId} {v : Value} {xs : List Value} (h : KeepC B W W') (ho : W.ownsRow base e size v n xs) : W'.ownsRow base e size v n xs := by
  refine ⟨ho.1, ?_⟩
  rcases ho.2 with h0 | ⟨g, cap, cur, e1, h2, h3, h4⟩
  · exact .inl h0
  · exact .inr ⟨g, cap, cur, e1, h2, h.cells _ _ _ _ h3, h4⟩
theorem KeepC.reads {B b size n : Nat} {W W' : World} {A : Option Addr} {xs : List Value} (h : KeepC B W W') (hr : Reads W b size A n xs) : Reads W' b size A n xs :=
  ⟨hr.1, fun hn => by
    obtain ⟨g, o, e, hb, hc⟩ := hr.2 hn
    exact ⟨g, o, e, hb, fun j u hu => h.cell (hc j u hu)⟩⟩
theorem ownFrom_keepC {β : Type} {B : Nat} {I : β → World → Prop} (h : ∀ s W W', I s W → KeepC B W W' → I s W') : OwnFrom B I := by
  intro s W W' row hs hg hr
  refine h s W W' hs ⟨hg.os, hg.tape, hg.output, hg.size, fun k hk hk2 => ?_, fun k cs t f hk => ?_⟩
  · refine hg.block k hk2 (fun e => ?_)
    have := (hr k e.symm).1; omega
  · rw [hg.block k (Array.getElem?_eq_some_iff.1 hk).1 (fun e => ?_)]
    · exact hk
    · obtain ⟨_, o, ho, hcl⟩ := hr k e.symm
      rw [hk] at ho; cases ho; cases hcl
/-- a mark on the deferred calls is taken off -/
theorem keepC_put {B D : Nat} {W : World} {o o' : Obj} (hD : B ≤ D) (h : W.heap[D]? = some o) (ho : o.isCells = false) : KeepC B W (W.putObj D o') :=
  ⟨rfl, rfl, rfl, by simp, fun k hk _ => World.putObj_heap_other (by omega), fun k cs t f hk => by
    rw [World.putObj_heap_other (fun e => by subst e; rw [hk] at h; cases h; cases ho)]; exact hk⟩
/-- what a body may do: whatever is no cells stays -/
structure Step (b : Nat) (W W' : World) : Prop where
  size : W.heap.size ≤ W'.heap.size
  same : ∀ (k : Nat) (o : Obj), W.heap[k]? = some o → o.isCells = false → W'.heap[k]? = some o
  box : Bk b W W'
theorem Step.refl (b : Nat) (W : World) : Step b W W := ⟨Nat.le_refl _, fun _ _ h _ => h, fun _ h => h⟩
theorem Step.trans {b : Nat} {X Y Z : World} (h : Step b X Y) (k : Step b Y Z) : Step b X Z :=
  ⟨Nat.le_trans h.size k.size, fun i o hi ho => k.same i o (h.same i o hi ho) ho, fun v hv => k.box v (h.box v hv)⟩
theorem Step.drew (b : Nat) (W : World) : Step b W W.drew := ⟨Nat.le_refl _, fun _ _ h _ => h, fun _ h => h⟩
theorem Step.of_below {b : Nat} {W W' : World} (h : Below W.heap.size W W') : Step b W W' :=
  ⟨h.size, fun k o hk _ => (h.block k (Array.getElem?_eq_some_iff.1 hk).1).trans hk, fun v hv => (h.cell (p := ⟨b, 0, none⟩) (World.block_lt_of_cell? _ _ hv)).trans hv⟩
theorem Step.alloc (b : Nat) (W : World) (o : Obj) : Step b W (W.alloc o) := Step.of_below ((Below.refl _ _).alloc (Nat.le_refl _) _)
theorem Step.setCell {b : Nat} (W : World) {p : Addr} (hp : p.block ≠ b) (u : Value) : Step b W (W.setCell p u) := by
  refine ⟨by simp [World.setCell], fun k o hk ho => ?_, fun v hv => ?_⟩
  · by_cases e : k = p.block
    · subst e
      simp only [World.setCell, Array.getElem?_modify, if_true]
      rw [hk]; cases o <;> first | rfl | cases ho
    · exact (Below.heap_setCell W p u k e).trans hk
  · exact (World.cell?_of_block (w := W) (Below.heap_setCell W p u b (fun e => hp e.symm))).trans hv
theorem Step.grown {b : Nat} {W W' : World} {row : Option Nat} (h : W.grownBy W' row) (hr : ∀ g, row = some g → g ≠ b ∧ ∃ cs t f, W.heap[g]? = some (.cells cs t f)) : Step b W W' := by
  refine ⟨h.size, fun k o hk ho => ?_, fun v hv => ?_⟩
  · rw [h.block k (Array.getElem?_eq_some_iff.1 hk).1 (fun e => ?_)]
    · exact hk
    · obtain ⟨_, cs, t, f, hh⟩ := hr k e.symm
      rw [hk] at hh; cases hh; cases ho
  · exact (World.cell?_of_block (w := W) (h.block b (World.block_lt_of_cell? _ _ hv) (fun e => (hr b e.symm).1 rfl))).trans hv
theorem Step.from {b : Nat} {W W' : World} (h : Step b W W') (B : Nat) : KeepsFrom B W W' := ⟨h.size, fun k o _ hk ho => h.same k o hk ho⟩
theorem bk_b (b : Nat) (W : World) (l : Nat) (o o' : Obj) (h : W.heap[l]? = some o) (ho : o.isCells = false) : Bk b W (W.putObj l o') := by
  intro v hv
  rw [World.cell?_of_block (w := W)]
  · exact hv
  · apply World.putObj_heap_other
    intro e
    have e : l = b := e.symm
    subst e
    cases o with
    | cells cs t f => cases ho
    | _ => simp [World.cell?, h] at hv
/-- how a round may be left -/
def RPost {α : Type} (b : Nat) (I : List α → World → Prop) (Ix : Code → List α → World → Prop) (xs : List α) (W : World) : Exit → Act → World → Prop
  | .normal, _, W' => Step b W W' ∧ I xs W'
  | .ret, _, W' => Step b W W' ∧ Ix .ret xs W'
  | .exit id, _, W' => Step b W W' ∧ Ix (.exit id) xs W'
  | .goto t, _, W' => Step b W W' ∧ Ix (.goto t) xs W'
  | .panic _, _, _ => False
  | .outgrown, _, _ => False
/-- 'for x := range s.Each()' -/
theorem wp_each {n m Bs : Nat} {g : Operand} {ps : Array Tmp} {assign body : Code} {Q : Exit → Act → World → Prop} {a : Act} {w : World}
    (hn : 2 ≤ n) (hm : m < 65536) (hg : a.eval g = .func (.func 80) #[] #[.pointer (some ⟨Bs, 0, none⟩)]) (hc : w.cell? ⟨Bs, 0, none⟩ = some (setV m)) (hps : 1 = ps.size)
    (I : List (Pt m) → World → Prop) (Ix : Code → List (Pt m) → World → Prop) (hI : ∀ s W W', I s W → KeepC w.heap.size W W' → I s W') (hIx : ∀ c s W W', Ix c s W → KeepC w.heap.size W W' → Ix c s W') (h0 : I [] w) (a₁ : Pt m → Act)
    (hassign : ∀ (l : Nat) (x : Pt m) (W : World) (K : Act → World → Prop), K (a₁ x) W →
      assign.wpIn (Fence.wide.inRound l) (n - 1 - 1) Tryz.prog (Exit.then K (fun _ _ _ => False)) { tmps := (ps.zip #[.int .i64 (x.1 : Int)]).foldl (fun t (p, v) => t.setIfInBounds p v) a.tmps, defers := [] } W)
    (hbody : ∀ (l : Nat) (pre : List (Pt m)) (x : Pt m) (W : World), I pre W → pre.length < 16 → body.wpIn (Fence.wide.inRound l) (n - 1 - 1) Tryz.prog (RPost Bs I Ix (pre ++ [x]) W) (a₁ x) W)
    (hdone : ∀ (D : Nat) (xs : List (Pt m)) (W : World), w.heap.size ≤ D → xs.map (·.1) = memb m → I xs W → W.heap[D]? = some (.deferred (some [])) → Q .normal { a with defers := { target := .collected D, args := #[] } :: a.defers } W)
    (hstop : ∀ (D : Nat) (c : Code) (pre : List (Pt m)) (W : World), w.heap.size ≤ D → pre.map (·.1) <+: memb m → Ix c pre W → W.heap[D]? = some (.deferred (some [])) → c.wpIn Fence.wide n Tryz.prog Q { a with defers := { target := .collected D, args := #[] } :: a.defers } W) :
    (Code.rangeFunc g ps assign body).wpIn Fence.wide n Tryz.prog Q a w := by
  refine wpIn_rangeFunc_ownG (F := Fence.wide) rfl (by omega) (gf := 80) (lb := #[.pointer (some ⟨Bs, 0, none⟩)]) hg trivial (enters_of Tryz.func80 (by kernel_rfl) rfl)
    (each_stops (n - 1) (by omega) Bs m hm w hc) (fun h k v hv => k v (h v hv)) (fun W l o o' _ h1 h2 _ => bk_b Bs W l o o' h1 h2) (Below.refl _ _) (fun _ => hps) I Ix (ownFrom_keepC hI) (fun c => ownFrom_keepC (hIx c)) h0 a₁ hassign ?_ hdone hstop
  intro l pre x W hi hlt
  refine wpIn_mono (hbody l pre x W hi hlt) ?_
  intro e a' W' h
  cases e with
  | normal => exact ⟨h.1.from _, h.1.box, h.2⟩
  | ret => exact ⟨h.1.from _, h.2⟩
  | exit id => exact ⟨h.1.from _, h.2⟩
  | goto t => exact ⟨h.1.from _, h.2⟩
  | panic ch => exact h
  | outgrown => exact h
/-- the marks that loops have left -/
def Marks (B : Nat) (ds : List Deferred) (W : World) : Prop :=
  ∃ Ds : List Nat, ds = Ds.map (fun D => { target := .collected D, args := #[] }) ∧ Ds.Nodup ∧ ∀ D ∈ Ds, B ≤ D ∧ W.heap[D]? = some (.deferred (some []))
theorem Marks.nil (B : Nat) (W : World) : Marks B [] W := ⟨[], rfl, List.nodup_nil, by simp⟩
theorem leave_marks {n B : Nat} {fn : Func} {tmps : Array Value} {R : Ending → World → Prop} {v : Value} : ∀ (ds : List Deferred) (W : World), Marks B ds W → (∀ W', (results fn tmps).run Tryz.prog W' = .ok v W') → (∀ W', KeepC B W W' → R (.returned v) W') →
    LeavesInM Fence.wide n Tryz.prog fn tmps R ds .returning W := by
  intro ds W hM hres hR
  obtain ⟨Ds, rfl, hnd, hD⟩ := hM
  induction Ds generalizing W with
  | nil => exact ⟨_, hres W, hR W (KeepC.refl _ _)⟩
  | cons D Ds ih =>
    obtain ⟨hB, hK⟩ := hD D List.mem_cons_self
    have hkc : KeepC B W (W.putObj D (.deferred none)) := keepC_put hB hK rfl
    refine ⟨by simp, .inl ⟨D, _, rfl, run_takeDeferred hK, ?_⟩⟩
    refine ih _ (fun W' hW' => hR W' (hkc.trans hW')) (List.nodup_cons.1 hnd).2 (fun D' hD' => ?_)
    obtain ⟨h1, h2⟩ := hD D' (List.mem_cons_of_mem _ hD')
    refine ⟨h1, (World.putObj_heap_other (fun e => ?_)).trans h2⟩
    subst e; exact (List.nodup_cons.1 hnd).1 hD'
end Go.Proofs.YtekfgkeimlidhaaGreatDoor
