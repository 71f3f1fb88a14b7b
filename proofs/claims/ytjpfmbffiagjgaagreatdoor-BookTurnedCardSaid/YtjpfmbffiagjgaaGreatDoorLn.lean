import Derived.Test.YtjpfmbffiagjgaaGreatDoorLS
import Derived.Test.YtjpfmbffiagjgaaGreatDoorBox
import Derived.Lib.IndexLaws
/- 'for line := range strings.Lines(text)': the body is told what is left of the text -/
set_option linter.all false
set_option maxRecDepth 100000
namespace Go.Proofs.YtjpfmbffiagjgaaGreatDoor
open Go.RowKit Go.Shelf Pl
attribute [local go_sem] Oper.semAt_some
/-! ### plain: a text's first line, and what is left -/
def cutLn : List UInt8 → List UInt8 × List UInt8
  | [] => ([], [])
  | b :: t => if b = 10 then ([10], t) else (b :: (cutLn t).1, (cutLn t).2)
theorem cutLn_app : ∀ t, (cutLn t).1 ++ (cutLn t).2 = t
  | [] => rfl
  | b :: t => by
    unfold cutLn
    split
    · rename_i h; rw [h]; rfl
    · show b :: ((cutLn t).1 ++ (cutLn t).2) = _; rw [cutLn_app t]
theorem cutLn_lt : ∀ t, t ≠ [] → (cutLn t).2.length < t.length
  | [], h => absurd rfl h
  | b :: t, _ => by
    unfold cutLn
    split
    · simp
    · have := congrArg List.length (cutLn_app t)
      rw [List.length_append] at this
      show (cutLn t).2.length < _
      rw [List.length_cons]; omega
theorem cutLn_some : ∀ (t : List UInt8) (o : Nat), Lib.indexByte t 10 = (o : Int) → cutLn t = (t.take (o + 1), t.drop (o + 1))
  | [], o, h => by simp [Lib.indexByte] at h
  | b :: t, o, h => by
    unfold Lib.indexByte at h
    by_cases hb : b = 10
    · subst hb
      rw [if_pos (by rfl)] at h
      have : o = 0 := by omega
      subst this
      unfold cutLn; rw [if_pos rfl]; rfl
    · rw [if_neg (by rw [beq_iff_eq]; exact hb)] at h
      split at h
      · omega
      · have hge := Lib.indexByte_ge t 10
        obtain ⟨o', rfl⟩ : ∃ o', o = o' + 1 := ⟨o - 1, by rename_i q; have : Lib.indexByte t 10 ≠ -1 := fun e => q (beq_iff_eq.2 e); omega⟩
        have ih := cutLn_some t o' (by omega)
        unfold cutLn; rw [if_neg hb, ih]; rfl
theorem cutLn_none : ∀ (t : List UInt8), Lib.indexByte t 10 = -1 → cutLn t = (t, [])
  | [], _ => rfl
  | b :: t, h => by
    unfold Lib.indexByte at h
    by_cases hb : b = 10
    · rw [if_pos (by rw [beq_iff_eq]; exact hb)] at h; omega
    · rw [if_neg (by rw [beq_iff_eq]; exact hb)] at h
      split at h
      · rename_i q
        unfold cutLn; rw [if_neg hb, cutLn_none t (beq_iff_eq.1 q)]
      · have hge := Lib.indexByte_ge t 10; omega
def lnB (u : ByteArray) : ByteArray × ByteArray := (⟨(cutLn u.data.toList).1.toArray⟩, ⟨(cutLn u.data.toList).2.toArray⟩)
theorem bytes_len (u : ByteArray) : u.data.toList.length = u.size := by rw [Array.length_toList]; rfl
theorem lnB_some {u : ByteArray} {o : Nat} (h : Lib.indexByte u.data.toList 10 = (o : Int)) : o + 1 ≤ u.size ∧ lnB u = (u.extract 0 (o + 1), u.extract (o + 1) u.size) := by
  have h1 := (Lib.indexByte_some h).1
  have hlt := (List.getElem?_eq_some_iff.1 h1).1
  rw [bytes_len] at hlt
  refine ⟨hlt, ?_⟩
  unfold lnB
  rw [cutLn_some _ _ h]
  refine Prod.ext ?_ ?_
  · apply ByteArray.ext
    apply Array.toList_inj.1
    simp [ByteArray.data_extract]
  · apply ByteArray.ext
    apply Array.toList_inj.1
    simp [ByteArray.data_extract]
    exact (List.take_of_length_le (by simp)).symm
theorem lnB_none {u : ByteArray} (h : Lib.indexByte u.data.toList 10 = -1) : lnB u = (u, ⟨#[]⟩) := by
  unfold lnB; rw [cutLn_none _ h]
theorem lnB_lt {u : ByteArray} (h : u.size ≠ 0) : (lnB u).2.size < u.size := by
  have hne : u.data.toList ≠ [] := fun e => by have := bytes_len u; rw [e] at this; exact h this.symm
  have := cutLn_lt _ hne
  rw [bytes_len] at this
  show (cutLn u.data.toList).2.toArray.size < _
  rw [List.size_toArray]; exact this
/-- how long the text in a box is -/
def boxLen (W : World) (b : Nat) : Nat := match W.cell? ⟨b, 0, none⟩ with
  | some (.string s) => s.size
  | _ => 0
structure LnI (Bs : Nat) (J : ByteArray → ByteArray → World → Prop) : Prop where
  cell : ∀ u t W, J u t W → W.cell? ⟨Bs, 0, none⟩ = some (.string u) ∧ W.frozen? ⟨Bs, 0, none⟩ = false ∧ u.size ≤ 1000000
  set : ∀ u t W u', J u t W → u'.size ≤ u.size → J u' t (W.setCell ⟨Bs, 0, none⟩ (.string u'))
  dr : ∀ u t W W', J u t W → Dr W W' → J u t W'
theorem lines_in (n : Nat) (hn : 1 ≤ n) (l Bs : Nat) (J : ByteArray → ByteArray → World → Prop) (hJ : LnI Bs J) (Jx : World → Prop)
    (hY : ∀ t W, t.size ≠ 0 → J (lnB t).2 t W → YieldAt Fence.wide (n - 1) Tryz.prog l #[.string (lnB t).1] W fun e W' =>
      (e = .returned (.bool true) ∧ J (lnB t).2 (lnB t).2 W') ∨ (e = .returned (.bool false) ∧ Jx W'))
    (W : World) (t0 : ByteArray) (h0 : J t0 t0 W) :
    CallsIn Fence.wide n Tryz.prog 32 #[.func (.yield l) #[] #[], .pointer (some ⟨Bs, 0, none⟩)] W fun e W' => (∃ v, e = .returned v) ∧ ((∃ t, t.size = 0 ∧ J t t W') ∨ Jx W') := by
  refine callsIn_of_wp Tryz.func32 rfl trivial ?_ rfl
  simp only [Tryz.ntmps32, List.size_toArray, List.length_cons, List.length_nil, Nat.reduceAdd, Nat.reduceSub, Array.replicate_succ, Array.replicate_zero, List.push_toArray, List.append_toArray, List.nil_append, List.cons_append]
  gi_wp2
  gi_loopw [3] (fun _ wr => ∃ t, J t t wr) (fun _ wr => boxLen wr Bs)
  case atStart => exact ⟨t0, h0⟩
  case round =>
    obtain ⟨t, hJt⟩ := hrel
    obtain ⟨hc, hf, ht6⟩ := hJ.cell _ _ _ hJt
    have HJT := Lib.hid hJt; clear hJt
    by_cases hz : t.size = 0
    · have hd := decide_eq_false (show ¬ (0 : Int) < (t.size : Int) by omega)
      gi_wp2
      go_end0
      exact ⟨⟨_, rfl⟩, .inl ⟨t, hz, HJT.out⟩⟩
    · have hd := decide_eq_true (show (0 : Int) < (t.size : Int) by omega)
      have HZ := Lib.hid hz
      have HX := Lib.hid (ixB_ok t 10 wr)
      have hge := Lib.indexByte_ge t.data.toList 10
      have hcase : (Lib.indexByte t.data.toList 10 = -1) ∨ ∃ o : Nat, Lib.indexByte t.data.toList 10 = (o : Int) := by
        by_cases q : Lib.indexByte t.data.toList 10 = -1
        · exact .inl q
        · exact .inr ⟨(Lib.indexByte t.data.toList 10).toNat, by omega⟩
      have hX : Calls Tryz.prog 33 #[.string t, .int .u8 10] wr fun e w' => e = .returned (.int .i64 (Lib.indexByte t.data.toList 10)) ∧ w' = wr := ixB_ok t 10 wr
      rcases hcase with hq | ⟨o, hq⟩
      · have hln := lnB_none hq
        rw [hq] at hX
        have HX := Lib.hid hX; clear hX hge hq
        have HY := fun W h => hY t W hz h
        rw [hln] at HY
        have HYH := Lib.hid HY; clear HY
        gi_upto_region 6 with (first | (refine ⟨trivial, ?_⟩; gi_at_call 33; refine (callsIn_wide.2 HX.out).mono ?_; rintro e w' ⟨rfl, rfl⟩))
        have hJ2 := hJ.set _ _ _ ⟨#[]⟩ HJT.out (Nat.zero_le _)
        obtain ⟨fn, tmps, assign, body, hy, hR⟩ := HYH.out _ hJ2
        gi_wp2
        refine hR.mono ?_
        rintro e W3 (⟨rfl, hJ3⟩ | ⟨rfl, hJx3⟩)
        · have hc3 := (hJ.cell _ _ _ hJ3).1
          gi_wp2
          go_roundw
          case rel => exact ⟨_, hJ3⟩
          case measure => unfold boxLen; rw [hc3, hc]; show (0 : Nat) < t.size; omega
        · gi_wp2
          refine bodyPost_ret (results_none rfl _ _ _) rfl ?_
          exact ⟨⟨_, rfl⟩, .inr hJx3⟩
      · obtain ⟨ho, hln⟩ := lnB_some hq
        have hkw : wrap64 ((o : Int) + 1) = ((o + 1 : Nat) : Int) := by unfold wrap64; omega
        have hsl : 0 ≤ IntKind.i64.wrap ((o : Int) + 1) ∧ IntKind.i64.wrap ((o : Int) + 1) ≤ (t.size : Int) := by rw [IntKind.wrap_i64]; omega
        have hx1 : t.extract 0 (IntKind.i64.wrap ((o : Int) + 1)).toNat = t.extract 0 (o + 1) := by rw [show IntKind.i64.wrap ((o : Int) + 1) = ((o + 1 : Nat) : Int) by rw [IntKind.wrap_i64]; omega]; rfl
        have hx2 : t.extract (IntKind.i64.wrap ((o : Int) + 1)).toNat t.size = t.extract (o + 1) t.size := by rw [show IntKind.i64.wrap ((o : Int) + 1) = ((o + 1 : Nat) : Int) by rw [IntKind.wrap_i64]; omega]; rfl
        rw [hq] at hX
        have HX := Lib.hid hX; clear hX hge hq hkw
        have HY := fun W h => hY t W hz h
        rw [hln] at HY
        have HYH := Lib.hid HY; clear HY
        gi_wp2_with (first | (refine ⟨trivial, ?_⟩; gi_at_call 33; refine (callsIn_wide.2 HX.out).mono ?_; rintro e w' ⟨rfl, rfl⟩))
        refine wpIn_region_still_tail open_wide 9 (by kernel_rfl) (by kernel_rfl) (by kernel_rfl) ?_; simp only [List.take_succ_cons, List.take_zero, List.drop_succ_cons, List.drop_zero]; repeat still_step; try refine wpStill_nil ?_
        change wpListIn _ _ _ _ _ _ _ (World.drew w')
        have hcd : (World.drew w').cell? ⟨Bs, 0, none⟩ = some (.string t) := hc
        have hfd : (World.drew w').frozen? ⟨Bs, 0, none⟩ = false := hf
        gi_upto_region 6 with (fail)
        have hJ2 := hJ.dr _ _ _ _ (hJ.set _ _ _ (t.extract (o + 1) t.size) HJT.out (by rw [ByteArray.size_extract]; omega)) (Dr.one _)
        obtain ⟨fn, tmps, assign, body, hy, hR⟩ := HYH.out _ hJ2
        gi_wp2
        refine hR.mono ?_
        rintro e W3 (⟨rfl, hJ3⟩ | ⟨rfl, hJx3⟩)
        · have hc3 := (hJ.cell _ _ _ hJ3).1
          gi_wp2
          go_roundw
          case rel => exact ⟨_, hJ3⟩
          case measure => unfold boxLen; rw [hc3, hc]; show (t.extract (o + 1) t.size).size < t.size; rw [ByteArray.size_extract]; omega
        · gi_wp2
          refine bodyPost_ret (results_none rfl _ _ _) rfl ?_
          exact ⟨⟨_, rfl⟩, .inr hJx3⟩
/-- how a round may be left -/
def RPostL (J : ByteArray → ByteArray → World → Prop) (Ix : Code → World → Prop) (t : ByteArray) (W : World) : Exit → Act → World → Prop
  | .normal, _, W' => NC W W' ∧ J t t W'
  | .ret, _, W' => NC W W' ∧ Ix .ret W'
  | .exit id, _, W' => NC W W' ∧ Ix (.exit id) W'
  | .goto t, _, W' => NC W W' ∧ Ix (.goto t) W'
  | .panic _, _, _ => False
  | .outgrown, _, _ => False
/-- 'for line := range strings.Lines(text)' -/
theorem wp_lines {n Bs : Nat} {g : Operand} {ps : Array Tmp} {assign body : Code} {Q : Exit → Act → World → Prop} {a : Act} {w : World}
    (hn : 2 ≤ n) (t0 : ByteArray) (hg : a.eval g = .func (.func 32) #[] #[.pointer (some ⟨Bs, 0, none⟩)]) (hps : 1 = ps.size)
    (J : ByteArray → ByteArray → World → Prop) (Ix : Code → World → Prop) (hJ : LnI Bs J) (hI : ∀ u t W W', J u t W → KeepC w.heap.size W W' → J u t W') (hIx : ∀ c W W', Ix c W → KeepC w.heap.size W W' → Ix c W') (h0 : J t0 t0 w) (a₁ : ByteArray → Act)
    (hassign : ∀ (l : Nat) (x : ByteArray) (W : World) (K : Act → World → Prop), K (a₁ x) W →
      assign.wpIn (Fence.wide.inRound l) (n - 1 - 1) Tryz.prog (Exit.then K (fun _ _ _ => False)) { tmps := (ps.zip #[.string x]).foldl (fun t (p, v) => t.setIfInBounds p v) a.tmps, defers := [] } W)
    (hbody : ∀ (l : Nat) (t : ByteArray) (W : World), t.size ≠ 0 → J (lnB t).2 t W → ∀ (J' : ByteArray → ByteArray → World → Prop) (Jx : Code → World → Prop), (∀ u t W', J u t W' → J' u t W') → (∀ c W', Ix c W' → Jx c W') → ∀ Q1 : Exit → Act → World → Prop, (∀ e a' W', RPostL J' Jx (lnB t).2 W e a' W' → Q1 e a' W') → body.wpIn (Fence.wide.inRound l) (n - 1 - 1) Tryz.prog Q1 (a₁ (lnB t).1) W)
    (hdone : ∀ (D : Nat) (t : ByteArray) (W : World), w.heap.size ≤ D → t.size = 0 → J t t W → W.heap[D]? = some (.deferred (some [])) → Q .normal { a with defers := { target := .collected D, args := #[] } :: a.defers } W)
    (hstop : ∀ (D : Nat) (c : Code) (W : World), w.heap.size ≤ D → Ix c W → W.heap[D]? = some (.deferred (some [])) → c.wpIn Fence.wide n Tryz.prog Q { a with defers := { target := .collected D, args := #[] } :: a.defers } W) :
    (Code.rangeFunc g ps assign body).wpIn Fence.wide n Tryz.prog Q a w := by
  refine wpIn_rangeFunc fun fn _ => ?_
  let r : LoopState → Option Code → Loop := fun st pe => { state := st, pending := pe, fn, tmps := a.tmps, params := ps, assign, body, defers := w.heap.size }
  have hrun := run_enterLoop_outer (P := Tryz.prog) (w := w) fn a.tmps ps assign body
  change _ = Result.ok _ ((w.alloc (.deferred (some []))).alloc (.loop (r .ready none))) at hrun
  have kc1 : KeepC w.heap.size w ((w.alloc (.deferred (some []))).alloc (.loop (r .ready none))) := (KeepC.alloc _ _ _).trans (KeepC.alloc _ _ _)
  have hL : ((w.alloc (.deferred (some []))).alloc (.loop (r .ready none))).heap[w.heap.size + 1]? = some (.loop (r .ready none)) := by
    have := World.alloc_heap_new (w.alloc (.deferred (some []))) (.loop (r .ready none)); rwa [World.size_alloc] at this
  have hK : ((w.alloc (.deferred (some []))).alloc (.loop (r .ready none))).heap[w.heap.size]? = some (.deferred (some [])) :=
    (Below.heap_alloc _ _ _ (by simp)).trans (World.alloc_heap_new w _)
  generalize ((w.alloc (.deferred (some []))).alloc (.loop (r .ready none))) = W1 at hrun kc1 hL hK
  refine ⟨w.heap.size + 1, _, W1, { target := .fn (.func 32) #[.pointer (some ⟨Bs, 0, none⟩)], args := #[.func (.yield (w.heap.size + 1)) #[] #[]] }, W1, 32, #[.func (.yield (w.heap.size + 1)) #[] #[]] ++ #[.pointer (some ⟨Bs, 0, none⟩)], W1, hrun, ?_, ?_, ?_, fun _ => by omega, ?_⟩
  · simp only [resolve, hg]; simp [go_sem]
  · intro f' _; trivial
  · simp [invoke, go_sem, enters_of Tryz.func32 (by kernel_rfl) rfl]
  · -- turns of the record keep the cells
    have turn : ∀ {W : World} {o : Obj} (o' : Obj), W.heap[w.heap.size + 1]? = some o → o.isCells = false → KeepC w.heap.size W (W.putObj (w.heap.size + 1) o') := fun o' h h' => keepC_put (by omega) h h'
    have kept : ∀ {W : World} (o' : Obj), W.heap[w.heap.size]? = some (.deferred (some [])) → (W.putObj (w.heap.size + 1) o').heap[w.heap.size]? = some (.deferred (some [])) := fun o' h => (World.putObj_heap_other (by omega)).trans h
    have now : ∀ {W : World} {o : Obj} (o' : Obj), W.heap[w.heap.size + 1]? = some o → (W.putObj (w.heap.size + 1) o').heap[w.heap.size + 1]? = some o' := fun o' h => World.putObj_heap_same (Array.getElem?_eq_some_iff.1 h).1
    have hBlt : Bs < w.heap.size := World.block_lt_of_cell? _ _ (hJ.cell _ _ _ h0).1
    have hJ' : LnI Bs (fun u t W => J u t W ∧ W.heap[w.heap.size + 1]? = some (.loop (r .ready none)) ∧ W.heap[w.heap.size]? = some (.deferred (some []))) :=
      ⟨fun u t W h => hJ.cell u t W h.1, fun u t W u' h hu => ⟨hJ.set u t W u' h.1 hu, (Below.heap_setCell W _ _ _ (by show _ ≠ Bs; omega)).trans h.2.1, (Below.heap_setCell W _ _ _ (by show _ ≠ Bs; omega)).trans h.2.2⟩,
        fun u t W W' h hd => ⟨hJ.dr u t W W' h.1 hd, by obtain ⟨m, rfl⟩ := hd; exact h.2.1, by obtain ⟨m, rfl⟩ := hd; exact h.2.2⟩⟩
    refine (lines_in (n - 1) (by omega) (w.heap.size + 1) Bs
      (fun u t W => J u t W ∧ W.heap[w.heap.size + 1]? = some (.loop (r .ready none)) ∧ W.heap[w.heap.size]? = some (.deferred (some []))) hJ'
      (fun W => ∃ c, Ix c W ∧ W.heap[w.heap.size + 1]? = some (.loop (r .done (some c))) ∧ W.heap[w.heap.size]? = some (.deferred (some []))) ?_ _ t0 ⟨hI _ _ _ _ h0 kc1, hL, hK⟩).mono ?_
    · rintro t W hx ⟨hi, hl, hk⟩
      have hy := run_yield (P := Tryz.prog) (args := #[.string (lnB t).1]) hl hps
      refine ⟨fn, _, assign, body, hy, roundIn_of_wpIn trivial (hassign _ (lnB t).1 W _ ⟨_, run_beginRound hl rfl, ?_⟩)⟩
      have hl2 := now (.loop { r .ready none with state := .busy }) hl
      have hk2 := kept (.loop { r .ready none with state := .busy }) hk
      have kc2 := turn (.loop { r .ready none with state := .busy }) hl rfl
      refine hbody _ t _ hx (hI _ _ _ _ hi kc2) _ _ (fun _ _ _ h => h) (fun _ _ h => h) _ ?_
      -- the round's end
      have fin : ∀ (jump : Option Code) (W3 : World), NC (W.putObj (w.heap.size + 1) (.loop { r .ready none with state := .busy })) W3 →
          (Instr.endRound (w.heap.size + 1) jump).run Tryz.prog W3 = .ok (.bool jump.isNone) (W3.putObj (w.heap.size + 1) (.loop (r (if jump.isNone then .ready else .done) jump))) ∧
          KeepC w.heap.size W3 (W3.putObj (w.heap.size + 1) (.loop (r (if jump.isNone then .ready else .done) jump))) ∧
          (W3.putObj (w.heap.size + 1) (.loop (r (if jump.isNone then .ready else .done) jump))).heap[w.heap.size + 1]? = some (.loop (r (if jump.isNone then .ready else .done) jump)) ∧
          (W3.putObj (w.heap.size + 1) (.loop (r (if jump.isNone then .ready else .done) jump))).heap[w.heap.size]? = some (.deferred (some [])) := fun jump W3 h3 => by
        have hl3 := h3.same _ _ hl2 rfl
        exact ⟨run_endRound jump hl3, turn _ hl3 rfl, now _ hl3, kept _ (h3.same _ _ hk2 rfl)⟩
      rintro e a3 W3 hp
      cases e with
      | normal =>
        obtain ⟨h3, hi3⟩ := hp
        obtain ⟨hr, kc, hl4, hk4⟩ := fin none W3 h3
        exact ⟨_, _, hr, .inl ⟨rfl, hI _ _ _ _ hi3 kc, hl4, hk4⟩⟩
      | ret =>
        obtain ⟨h3, hi3⟩ := hp
        obtain ⟨hr, kc, hl4, hk4⟩ := fin (some .ret) W3 h3
        exact ⟨_, _, hr, .inr ⟨rfl, .ret, hIx _ _ _ hi3 kc, hl4, hk4⟩⟩
      | exit id =>
        obtain ⟨h3, hi3⟩ := hp
        obtain ⟨hr, kc, hl4, hk4⟩ := fin (some (.exit id)) W3 h3
        exact ⟨_, _, hr, .inr ⟨rfl, .exit id, hIx _ _ _ hi3 kc, hl4, hk4⟩⟩
      | goto t =>
        obtain ⟨h3, hi3⟩ := hp
        obtain ⟨hr, kc, hl4, hk4⟩ := fin (some (.goto t)) W3 h3
        exact ⟨_, _, hr, .inr ⟨rfl, .goto t, hIx _ _ _ hi3 kc, hl4, hk4⟩⟩
      | panic ch => exact hp.elim
      | outgrown => exact hp.elim
    · rintro e W2 ⟨⟨v, rfl⟩, (⟨t, ht, hi, hl, hk⟩ | ⟨c, hi, hl, hk⟩)⟩
      · exact ⟨none, _, run_endLoop hl (by simp [r]), hdone _ t _ (Nat.le_refl _) ht (hI _ _ _ _ hi (turn _ hl rfl)) (kept _ hk)⟩
      · exact ⟨some c, _, run_endLoop hl (by simp [r]), hstop _ c _ (Nat.le_refl _) (hIx _ _ _ hi (turn _ hl rfl)) (kept _ hk)⟩
end Go.Proofs.YtjpfmbffiagjgaaGreatDoor
