import Derived.Test.YtekfgkeimlidhaaGreatDoorEach
import Derived.Test.YtekfgkeimlidhaaGreatDoorHP2
import Derived.Test.YtekfgkeimlidhaaGreatDoorTl
import Derived.Sort.CutIn
import Derived.Test.YtekfgkeimlidhaaGreatDoorStillIn
/- 'for x := range s.Each()' where the body is told what is left of the set; things owned through it -/
set_option linter.all false
set_option maxRecDepth 100000
namespace Go.Proofs.YtekfgkeimlidhaaGreatDoor
open Go.RowKit Go.Shelf Pl
attribute [local go_sem] Oper.semAt_some
/-- how a round may be left -/
def RPost2 (I : World → Prop) (Ix : Code → World → Prop) (b : Nat) (m : Nat) (W : World) : Exit → Act → World → Prop
  | .normal, _, W' => NC W W' ∧ W'.cell? ⟨b, 0, none⟩ = some (setV m) ∧ I W'
  | .ret, _, W' => NC W W' ∧ Ix .ret W'
  | .exit id, _, W' => NC W W' ∧ Ix (.exit id) W'
  | .goto t, _, W' => NC W W' ∧ Ix (.goto t) W'
  | .panic _, _, _ => False
  | .outgrown, _, _ => False
theorem membTo_rest {m k : Nat} {rest : List Nat} (hk : k < 16) (hb : m.testBit k = true) (h : membTo m k ++ rest = memb m) : ∃ r, rest = k :: r ∧ membTo m (k+1) ++ r = memb m := by
  have hp := membTo_pre (m := m) (k := k + 1) (by omega)
  obtain ⟨t, ht⟩ := hp
  have hs := membTo_succ (m := m) (k := k)
  rw [hb] at hs
  simp only [if_true] at hs
  refine ⟨t, ?_, ht⟩
  rw [hs, ← h, List.append_assoc] at ht
  exact (List.append_cancel_left ht).symm
theorem each2_in (n : Nat) (hn : 1 ≤ n) (l Bs m : Nat) (hm : m < 65536) (J : List Nat → World → Prop) (Jx : World → Prop)
    (hY : ∀ (x : Nat) rest W, x < 16 → J (x :: rest) W → W.cell? ⟨Bs, 0, none⟩ = some (setV m) → YieldAt Fence.wide (n - 1) Tryz.prog l #[.int .i64 (x : Int)] W fun e W' =>
      (e = .returned (.bool true) ∧ J rest W' ∧ W'.cell? ⟨Bs, 0, none⟩ = some (setV m)) ∨ (e = .returned (.bool false) ∧ Jx W'))
    (W : World) (hBs : W.cell? ⟨Bs, 0, none⟩ = some (setV m)) (h0 : J (memb m) W) :
    CallsIn Fence.wide n Tryz.prog 80 #[.func (.yield l) #[] #[], .pointer (some ⟨Bs, 0, none⟩)] W fun e W' => (∃ v, e = .returned v) ∧ (J [] W' ∨ Jx W') := by
  refine callsIn_of_wp Tryz.func80 rfl trivial ?_ rfl
  simp only [Tryz.ntmps80, List.size_toArray, List.length_cons, List.length_nil, Nat.reduceAdd, Nat.reduceSub, Array.replicate_succ, Array.replicate_zero, List.push_toArray, List.append_toArray, List.nil_append, List.cons_append]
  unfold setV at hBs
  gi_wp2
  gi_loopw [3] (fun i wr => ∃ (k : Nat) (rest : List Nat), k ≤ 16 ∧ i = .int .i64 k ∧ membTo m k ++ rest = memb m ∧ J rest wr ∧ wr.cell? ⟨Bs, 0, none⟩ = some (.int .u64 (m : Int)))
    (fun i _ => 16 - (intOf i).toNat)
  case atStart => exact ⟨0, memb m, Nat.zero_le _, rfl, rfl, h0, hBs⟩
  case round =>
    obtain ⟨k, rest, hk, rfl, hpre, hJ, hcx⟩ := hrel
    have HCX := Lib.hid hcx
    have HP := Lib.hid hpre; clear hpre
    by_cases hz : m / 2 ^ k = 0
    · have hzb : (((m : Int) / 2 ^ k) != 0) = false := by
        have e : ((m : Int) / 2 ^ k) = ((m / 2 ^ k : Nat) : Int) := by norm_cast
        rw [e, hz]; rfl
      have HZ := Lib.hid hz; clear hz
      gi_wp2
      go_end0
      have hr : rest = [] := by
        have h1 := HP.out
        rw [membTo_full hm HZ.out hk] at h1
        simpa using h1
      subst hr
      exact ⟨⟨_, rfl⟩, .inl hJ⟩
    · have hk16 : k < 16 := by
        rcases Nat.lt_or_ge k 16 with h | h
        · exact h
        · exact absurd (div_pow_zero hm h) hz
      have hzb : (((m : Int) / 2 ^ k) != 0) = true := by
        have e : ((m : Int) / 2 ^ k) = ((m / 2 ^ k : Nat) : Int) := by norm_cast
        rw [e]; simp; omega
      have HZ := Lib.hid hz; clear hz
      cases hbit : m.testBit k
      · have HS : Hid (membTo m (k+1) = membTo m k) := by show _ = _; rw [membTo_succ, hbit]; simp
        have HB2 := Lib.hid hbit; clear hbit
        gi_wp2_with (first | (refine ⟨trivial, ?_⟩; gi_at_call 57; refine (callsIn_wide.2 (has_dec HB2.out _ hm (by omega))).mono ?_; rintro e w' ⟨rfl, rfl⟩))
        refine ⟨fun _ h => (by cases h), ?_⟩
        gi_wp2
        go_roundw
        case rel => exact ⟨k + 1, rest, by omega, by go_num, by rw [HS.out, HP.out], hJ, HCX.out⟩
        case measure => simp [intOf] <;> omega
      · obtain ⟨r, hr, hr2⟩ := membTo_rest hk16 hbit HP.out
        subst hr
        have HR2 := Lib.hid hr2; clear hr2
        obtain ⟨fn, tmps, assign, body, hy, hR⟩ := hY k r wr hk16 hJ HCX.out
        have HB2 := Lib.hid hbit; clear hbit
        gi_wp2_with (first | (refine ⟨trivial, ?_⟩; gi_at_call 57; refine (callsIn_wide.2 (has_dec HB2.out _ hm (by omega))).mono ?_; rintro e w' ⟨rfl, rfl⟩))
        gi_wp2
        refine hR.mono ?_
        rintro e W3 (⟨rfl, hJ3, hk3⟩ | ⟨rfl, hJx3⟩)
        · gi_wp2
          go_roundw
          case rel => exact ⟨k + 1, r, by omega, by go_num, HR2.out, hJ3, hk3⟩
          case measure => simp [intOf] <;> omega
        · gi_wp2
          refine bodyPost_ret (results_none rfl _ _ _) rfl ?_
          exact ⟨⟨_, rfl⟩, .inr hJx3⟩
theorem KeepC.of_below {B : Nat} {W W' : World} (h : Below W.heap.size W W') : KeepC B W W' :=
  ⟨h.os, h.tape, h.output, h.size, fun k _ hk => h.block k hk, fun k cs t f hk => (h.block k (Array.getElem?_eq_some_iff.1 hk).1).trans hk⟩
theorem KeepC.alloc (B : Nat) (W : World) (o : Obj) : KeepC B W (W.alloc o) := .of_below ((Below.refl _ _).alloc (Nat.le_refl _) _)
/-- 'for x := range s.Each()': the body is told what is left -/
theorem wp_each2 {n m Bs : Nat} {g : Operand} {ps : Array Tmp} {assign body : Code} {Q : Exit → Act → World → Prop} {a : Act} {w : World}
    (hn : 2 ≤ n) (hm : m < 65536) (hg : a.eval g = .func (.func 80) #[] #[.pointer (some ⟨Bs, 0, none⟩)]) (hc : w.cell? ⟨Bs, 0, none⟩ = some (setV m)) (hps : 1 = ps.size)
    (I : List Nat → World → Prop) (Ix : Code → World → Prop) (hI : ∀ s W W', I s W → KeepC w.heap.size W W' → I s W') (hIx : ∀ c W W', Ix c W → KeepC w.heap.size W W' → Ix c W') (h0 : I (memb m) w) (a₁ : Nat → Act)
    (hassign : ∀ (l x : Nat) (W : World) (K : Act → World → Prop), K (a₁ x) W →
      assign.wpIn (Fence.wide.inRound l) (n - 1 - 1) Tryz.prog (Exit.then K (fun _ _ _ => False)) { tmps := (ps.zip #[.int .i64 (x : Int)]).foldl (fun t (p, v) => t.setIfInBounds p v) a.tmps, defers := [] } W)
    (hbody : ∀ (l x : Nat) (rest : List Nat) (W : World), x < 16 → I (x :: rest) W → W.cell? ⟨Bs, 0, none⟩ = some (setV m) → ∀ (J : World → Prop) (Jx : Code → World → Prop), (∀ W', I rest W' → J W') → (∀ c W', Ix c W' → Jx c W') → ∀ Q1 : Exit → Act → World → Prop, (∀ e a' W', RPost2 J Jx Bs m W e a' W' → Q1 e a' W') → body.wpIn (Fence.wide.inRound l) (n - 1 - 1) Tryz.prog Q1 (a₁ x) W)
    (hdone : ∀ (D : Nat) (W : World), w.heap.size ≤ D → I [] W → W.heap[D]? = some (.deferred (some [])) → Q .normal { a with defers := { target := .collected D, args := #[] } :: a.defers } W)
    (hstop : ∀ (D : Nat) (c : Code) (W : World), w.heap.size ≤ D → Ix c W → W.heap[D]? = some (.deferred (some [])) → c.wpIn Fence.wide n Tryz.prog Q { a with defers := { target := .collected D, args := #[] } :: a.defers } W) :
    (Code.rangeFunc g ps assign body).wpIn Fence.wide n Tryz.prog Q a w := by
  refine wpIn_rangeFunc fun fn _ => ?_
  let r : LoopState → Option Code → Loop := fun st pe => { state := st, pending := pe, fn, tmps := a.tmps, params := ps, assign, body, defers := w.heap.size }
  have hrun := run_enterLoop_outer (P := Tryz.prog) (w := w) fn a.tmps ps assign body
  change _ = Result.ok _ ((w.alloc (.deferred (some []))).alloc (.loop (r .ready none))) at hrun
  have kc1 : KeepC w.heap.size w ((w.alloc (.deferred (some []))).alloc (.loop (r .ready none))) := (KeepC.alloc _ _ _).trans (KeepC.alloc _ _ _)
  have hL : ((w.alloc (.deferred (some []))).alloc (.loop (r .ready none))).heap[w.heap.size + 1]? = some (.loop (r .ready none)) := by
    have := World.alloc_heap_new (w.alloc (.deferred (some []))) (.loop (r .ready none)); rwa [World.size_alloc] at this
  have hK : ((w.alloc (.deferred (some []))).alloc (.loop (r .ready none))).heap[w.heap.size]? = some (.deferred (some [])) :=
    (Below.heap_alloc _ _ _ (by simp)).trans (World.alloc_heap_new w _)
  generalize ((w.alloc (.deferred (some []))).alloc (.loop (r .ready none))) = W1 at hrun kc1 hL hK
  refine ⟨w.heap.size + 1, _, W1, { target := .fn (.func 80) #[.pointer (some ⟨Bs, 0, none⟩)], args := #[.func (.yield (w.heap.size + 1)) #[] #[]] }, W1, 80, #[.func (.yield (w.heap.size + 1)) #[] #[]] ++ #[.pointer (some ⟨Bs, 0, none⟩)], W1, hrun, ?_, ?_, ?_, fun _ => by omega, ?_⟩
  · simp only [resolve, hg]; simp [go_sem]
  · intro f' _; trivial
  · simp [invoke, go_sem, enters_of Tryz.func80 (by kernel_rfl) rfl]
  · -- turns of the record keep the cells
    have turn : ∀ {W : World} {o : Obj} (o' : Obj), W.heap[w.heap.size + 1]? = some o → o.isCells = false → KeepC w.heap.size W (W.putObj (w.heap.size + 1) o') := fun o' h h' => keepC_put (by omega) h h'
    have kept : ∀ {W : World} (o' : Obj), W.heap[w.heap.size]? = some (.deferred (some [])) → (W.putObj (w.heap.size + 1) o').heap[w.heap.size]? = some (.deferred (some [])) := fun o' h => (World.putObj_heap_other (by omega)).trans h
    have now : ∀ {W : World} {o : Obj} (o' : Obj), W.heap[w.heap.size + 1]? = some o → (W.putObj (w.heap.size + 1) o').heap[w.heap.size + 1]? = some o' := fun o' h => World.putObj_heap_same (Array.getElem?_eq_some_iff.1 h).1
    refine (each2_in (n - 1) (by omega) (w.heap.size + 1) Bs m hm
      (fun rest W => I rest W ∧ W.heap[w.heap.size + 1]? = some (.loop (r .ready none)) ∧ W.heap[w.heap.size]? = some (.deferred (some [])))
      (fun W => ∃ c, Ix c W ∧ W.heap[w.heap.size + 1]? = some (.loop (r .done (some c))) ∧ W.heap[w.heap.size]? = some (.deferred (some []))) ?_ _ (kc1.cell hc) ⟨hI _ _ _ h0 kc1, hL, hK⟩).mono ?_
    · rintro x rest W hx ⟨hi, hl, hk⟩ hcs
      have hy := run_yield (P := Tryz.prog) (args := #[.int .i64 (x : Int)]) hl hps
      refine ⟨fn, _, assign, body, hy, roundIn_of_wpIn trivial (hassign _ x W _ ⟨_, run_beginRound hl rfl, ?_⟩)⟩
      have hl2 := now (.loop { r .ready none with state := .busy }) hl
      have hk2 := kept (.loop { r .ready none with state := .busy }) hk
      have kc2 := turn (.loop { r .ready none with state := .busy }) hl rfl
      refine hbody _ x rest _ hx (hI _ _ _ hi kc2) (kc2.cell hcs) _ _ (fun _ h => h) (fun _ _ h => h) _ ?_
      -- the round's end
      have fin : ∀ (jump : Option Code) (W3 : World), NC (W.putObj (w.heap.size + 1) (.loop { r .ready none with state := .busy })) W3 →
          (Instr.endRound (w.heap.size + 1) jump).run Tryz.prog W3 = .ok (.bool jump.isNone) (W3.putObj (w.heap.size + 1) (.loop (r (if jump.isNone then .ready else .done) jump))) ∧
          KeepC w.heap.size W3 (W3.putObj (w.heap.size + 1) (.loop (r (if jump.isNone then .ready else .done) jump))) ∧
          (W3.putObj (w.heap.size + 1) (.loop (r (if jump.isNone then .ready else .done) jump))).heap[w.heap.size + 1]? = some (.loop (r (if jump.isNone then .ready else .done) jump)) ∧
          (W3.putObj (w.heap.size + 1) (.loop (r (if jump.isNone then .ready else .done) jump))).heap[w.heap.size]? = some (.deferred (some [])) := fun jump W3 h3 => by
        have hl3 := h3.same _ _ hl2 rfl
        exact ⟨run_endRound jump hl3, turn _ hl3 rfl, now _ hl3, kept _ (h3.same _ _ hk2 rfl)⟩
      rintro e a3 W3 hp
      cases e with
      | normal =>
        obtain ⟨h3, hc3, hi3⟩ := hp
        obtain ⟨hr, kc, hl4, hk4⟩ := fin none W3 h3
        exact ⟨_, _, hr, .inl ⟨rfl, ⟨hI _ _ _ hi3 kc, hl4, hk4⟩, kc.cell hc3⟩⟩
      | ret =>
        obtain ⟨h3, hi3⟩ := hp
        obtain ⟨hr, kc, hl4, hk4⟩ := fin (some .ret) W3 h3
        exact ⟨_, _, hr, .inr ⟨rfl, .ret, hIx _ _ _ hi3 kc, hl4, hk4⟩⟩
      | exit id =>
        obtain ⟨h3, hi3⟩ := hp
        obtain ⟨hr, kc, hl4, hk4⟩ := fin (some (.exit id)) W3 h3
        exact ⟨_, _, hr, .inr ⟨rfl, .exit id, hIx _ _ _ hi3 kc, hl4, hk4⟩⟩
      | goto t =>
        obtain ⟨h3, hi3⟩ := hp
        obtain ⟨hr, kc, hl4, hk4⟩ := fin (some (.goto t)) W3 h3
        exact ⟨_, _, hr, .inr ⟨rfl, .goto t, hIx _ _ _ hi3 kc, hl4, hk4⟩⟩
      | panic ch => exact hp.elim
      | outgrown => exact hp.elim
    · rintro e W2 ⟨⟨v, rfl⟩, (⟨hi, hl, hk⟩ | ⟨c, hi, hl, hk⟩)⟩
      · exact ⟨none, _, run_endLoop hl (by simp [r]), hdone _ _ (Nat.le_refl _) (hI _ _ _ hi (turn _ hl rfl)) (kept _ hk)⟩
      · exact ⟨some c, _, run_endLoop hl (by simp [r]), hstop _ c _ (Nat.le_refl _) (hIx _ _ _ hi (turn _ hl rfl)) (kept _ hk)⟩
end Go.Proofs.YtekfgkeimlidhaaGreatDoor
