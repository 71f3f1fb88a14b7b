import Derived.Test.YtabkmceajgpdjaaDoorEach2
import Derived.Test.YtabkmceajgpdjaaDoorBox
/- 'for x := range slices.Values(l)' -/
set_option linter.all false
set_option maxRecDepth 100000
namespace Go.Proofs.YtabkmceajgpdjaaDoor
open Go.RowKit Go.Shelf Pl
attribute [local go_sem] Oper.semAt_some
/-- the box Bs holds a row of xs -/
def BoxR (Bs : Nat) (A : Option Addr) (cap : Nat) (xs : List Int) (W : World) : Prop := W.cell? ⟨Bs, 0, none⟩ = some (.slice A xs.length cap) ∧ ReadsI W W.heap.size A xs
set_option maxRecDepth 100000 in
set_option maxHeartbeats 2000000 in
theorem vals_in (n : Nat) (hn : 1 ≤ n) (l Bs : Nat) (A : Option Addr) (cap : Nat) (xs : List Int) (hl : xs.length ≤ 100) (J : List Int → World → Prop) (hK : ∀ r W, J r W → BoxR Bs A cap xs W)
    (hY : ∀ (x : Int) rest W, J (x :: rest) W → YieldAt Fence.wide (n - 1) Tryd.prog l #[.int .i64 x] W fun e W' => e = .returned (.bool true) ∧ J rest W')
    (W : World) (h0 : J xs W) :
    CallsIn Fence.wide n Tryd.prog 41 #[.func (.yield l) #[] #[], .pointer (some ⟨Bs, 0, none⟩)] W fun e W' => (∃ v, e = .returned v) ∧ J [] W' := by
  refine callsIn_of_wp Tryd.func41 rfl trivial ?_ rfl
  simp only [Tryd.ntmps41, List.size_toArray, List.length_cons, List.length_nil, Nat.reduceAdd, Nat.reduceSub, Array.replicate_succ, Array.replicate_zero, List.push_toArray, List.append_toArray, List.nil_append, List.cons_append]
  have hbox := (hK _ _ h0).1
  gi_wp2
  gi_loopw [7] (fun i wr => ∃ (k : Nat) (rest : List Int), k ≤ xs.length ∧ i = .int .i64 k ∧ xs.drop k = rest ∧ J rest wr) (fun i _ => xs.length - (intOf i).toNat)
  case atStart => exact ⟨0, xs, Nat.zero_le _, rfl, rfl, h0⟩
  case round =>
    obtain ⟨k, rest, hk, rfl, hd, hJ⟩ := hrel
    by_cases hlt : k < xs.length
    · have hdr := List.drop_eq_getElem_cons hlt
      rw [hdr] at hd
      subst hd
      obtain ⟨b, o, ea, _, f1, f2, f3⟩ := ReadsI.ix (hK _ _ hJ).2 (ix_nat hlt)
      cases ea
      simp only [Int.toNat_natCast] at f3
      obtain ⟨fn, tmps, assign, body, hy, hR⟩ := hY xs[k] _ wr hJ
      have HDR := Lib.hid hdr; clear hdr
      gi_wp2
      refine hR.mono ?_
      rintro e W3 ⟨rfl, hJ3⟩
      gi_wp2
      go_roundw
      case rel => exact ⟨k + 1, xs.drop (k+1), by omega, by go_num, rfl, hJ3⟩
      case measure => simp [intOf] <;> omega
    · have hge : ¬ ((k : Int) < (xs.length : Int)) := by omega
      have hr : rest = [] := by rw [← hd]; exact List.drop_of_length_le (by omega)
      subst hr
      have HD0 := Lib.hid hd; clear hd
      gi_wp2
      go_end0
      exact ⟨⟨_, rfl⟩, hJ⟩
/-- a round's end: no round leaves -/
def RPostV (J : World → Prop) (W : World) : Exit → Act → World → Prop
  | .normal, _, W' => NC W W' ∧ J W'
  | _, _, _ => False
theorem wp_vals {n Bs : Nat} {A : Option Addr} {cap : Nat} {xs : List Int} {g : Operand} {ps : Array Tmp} {assign body : Code} {Q : Exit → Act → World → Prop} {a : Act} {w : World}
    (hn : 2 ≤ n) (hl : xs.length ≤ 100) (hg : a.eval g = .func (.func 41) #[] #[.pointer (some ⟨Bs, 0, none⟩)]) (hps : 1 = ps.size)
    (I : List Int → World → Prop) (hI : ∀ s W W', I s W → KeepC w.heap.size W W' → I s W') (hIK : ∀ r W, I r W → BoxR Bs A cap xs W) (h0 : I xs w) (a₁ : Int → Act)
    (hassign : ∀ (l : Nat) (x : Int) (W : World) (K : Act → World → Prop), K (a₁ x) W →
      assign.wpIn (Fence.wide.inRound l) (n - 1 - 1) Tryd.prog (Exit.then K (fun _ _ _ => False)) { tmps := (ps.zip #[.int .i64 x]).foldl (fun t (p, v) => t.setIfInBounds p v) a.tmps, defers := [] } W)
    (hbody : ∀ (l : Nat) (x : Int) (rest : List Int) (W : World), I (x :: rest) W → ∀ (J : World → Prop), (∀ W', I rest W' → J W') → ∀ Q1 : Exit → Act → World → Prop, (∀ e a' W', RPostV J W e a' W' → Q1 e a' W') → body.wpIn (Fence.wide.inRound l) (n - 1 - 1) Tryd.prog Q1 (a₁ x) W)
    (hdone : ∀ (D : Nat) (W : World), w.heap.size ≤ D → I [] W → W.heap[D]? = some (.deferred (some [])) → Q .normal { a with defers := { target := .collected D, args := #[] } :: a.defers } W) :
    (Code.rangeFunc g ps assign body).wpIn Fence.wide n Tryd.prog Q a w := by
  refine wpIn_rangeFunc fun fn _ => ?_
  let r : LoopState → Option Code → Loop := fun st pe => { state := st, pending := pe, fn, tmps := a.tmps, params := ps, assign, body, defers := w.heap.size }
  have hrun := run_enterLoop_outer (P := Tryd.prog) (w := w) fn a.tmps ps assign body
  change _ = Result.ok _ ((w.alloc (.deferred (some []))).alloc (.loop (r .ready none))) at hrun
  have kc1 : KeepC w.heap.size w ((w.alloc (.deferred (some []))).alloc (.loop (r .ready none))) := (KeepC.alloc _ _ _).trans (KeepC.alloc _ _ _)
  have hL : ((w.alloc (.deferred (some []))).alloc (.loop (r .ready none))).heap[w.heap.size + 1]? = some (.loop (r .ready none)) := by
    have := World.alloc_heap_new (w.alloc (.deferred (some []))) (.loop (r .ready none)); rwa [World.size_alloc] at this
  have hK : ((w.alloc (.deferred (some []))).alloc (.loop (r .ready none))).heap[w.heap.size]? = some (.deferred (some [])) :=
    (Below.heap_alloc _ _ _ (by simp)).trans (World.alloc_heap_new w _)
  generalize ((w.alloc (.deferred (some []))).alloc (.loop (r .ready none))) = W1 at hrun kc1 hL hK
  refine ⟨w.heap.size + 1, _, W1, { target := .fn (.func 41) #[.pointer (some ⟨Bs, 0, none⟩)], args := #[.func (.yield (w.heap.size + 1)) #[] #[]] }, W1, 41, #[.func (.yield (w.heap.size + 1)) #[] #[]] ++ #[.pointer (some ⟨Bs, 0, none⟩)], W1, hrun, ?_, ?_, ?_, fun _ => by omega, ?_⟩
  · simp only [resolve, hg]; simp [go_sem]
  · intro f' _; trivial
  · simp [invoke, go_sem, enters_of Tryd.func41 (by kernel_rfl) rfl]
  · have turn : ∀ {W : World} {o : Obj} (o' : Obj), W.heap[w.heap.size + 1]? = some o → o.isCells = false → KeepC w.heap.size W (W.putObj (w.heap.size + 1) o') := fun o' h h' => keepC_put (by omega) h h'
    have kept : ∀ {W : World} (o' : Obj), W.heap[w.heap.size]? = some (.deferred (some [])) → (W.putObj (w.heap.size + 1) o').heap[w.heap.size]? = some (.deferred (some [])) := fun o' h => (World.putObj_heap_other (by omega)).trans h
    have now : ∀ {W : World} {o : Obj} (o' : Obj), W.heap[w.heap.size + 1]? = some o → (W.putObj (w.heap.size + 1) o').heap[w.heap.size + 1]? = some o' := fun o' h => World.putObj_heap_same (Array.getElem?_eq_some_iff.1 h).1
    refine (vals_in (n - 1) (by omega) (w.heap.size + 1) Bs A cap xs hl
      (fun rest W => I rest W ∧ W.heap[w.heap.size + 1]? = some (.loop (r .ready none)) ∧ W.heap[w.heap.size]? = some (.deferred (some []))) (fun r W h => hIK _ _ h.1) ?_ _ ⟨hI _ _ _ h0 kc1, hL, hK⟩).mono ?_
    · rintro x rest W ⟨hi, hl, hk⟩
      have hy := run_yield (P := Tryd.prog) (args := #[.int .i64 x]) hl hps
      refine ⟨fn, _, assign, body, hy, roundIn_of_wpIn trivial (hassign _ x W _ ⟨_, run_beginRound hl rfl, ?_⟩)⟩
      have hl2 := now (.loop { r .ready none with state := .busy }) hl
      have hk2 := kept (.loop { r .ready none with state := .busy }) hk
      have kc2 := turn (.loop { r .ready none with state := .busy }) hl rfl
      refine hbody _ x rest _ (hI _ _ _ hi kc2) _ (fun _ h => h) _ ?_
      have fin : ∀ (jump : Option Code) (W3 : World), NC (W.putObj (w.heap.size + 1) (.loop { r .ready none with state := .busy })) W3 →
          (Instr.endRound (w.heap.size + 1) jump).run Tryd.prog W3 = .ok (.bool jump.isNone) (W3.putObj (w.heap.size + 1) (.loop (r (if jump.isNone then .ready else .done) jump))) ∧
          KeepC w.heap.size W3 (W3.putObj (w.heap.size + 1) (.loop (r (if jump.isNone then .ready else .done) jump))) ∧
          (W3.putObj (w.heap.size + 1) (.loop (r (if jump.isNone then .ready else .done) jump))).heap[w.heap.size + 1]? = some (.loop (r (if jump.isNone then .ready else .done) jump)) ∧
          (W3.putObj (w.heap.size + 1) (.loop (r (if jump.isNone then .ready else .done) jump))).heap[w.heap.size]? = some (.deferred (some [])) := fun jump W3 h3 => by
        have hl3 := h3.same _ _ hl2 rfl
        exact ⟨run_endRound jump hl3, turn _ hl3 rfl, now _ hl3, kept _ (h3.same _ _ hk2 rfl)⟩
      rintro e a3 W3 hp
      cases e with
      | normal =>
        obtain ⟨h3, hi3⟩ := hp
        obtain ⟨hr, kc, hl4, hk4⟩ := fin none W3 h3
        exact ⟨_, _, hr, rfl, hI _ _ _ hi3 kc, hl4, hk4⟩
      | ret => exact hp.elim
      | exit id => exact hp.elim
      | goto t => exact hp.elim
      | panic ch => exact hp.elim
      | outgrown => exact hp.elim
    · rintro e W2 ⟨⟨v, rfl⟩, hi, hl, hk⟩
      exact ⟨none, _, run_endLoop hl (by simp [r]), hdone _ _ (Nat.le_refl _) (hI _ _ _ hi (turn _ hl rfl)) (kept _ hk)⟩
/-! ### slices.AppendSeq, Collect -/
set_option maxRecDepth 100000 in
set_option maxHeartbeats 4000000 in
theorem appSeq_ok {l : List Int} {A : Option Addr} {Bs cap : Nat} (w : World) (hlen : l.length ≤ 100) (hc : w.cell? ⟨Bs, 0, none⟩ = some (.slice A l.length cap)) (hr : ReadsI w w.heap.size A l) :
    Calls Tryd.prog 47 #[.slice none 0 0, .func (.func 41) #[] #[.pointer (some ⟨Bs, 0, none⟩)]] w (PostG (fun v => v) (fun v => owI v l) w.heap.size w) := by
  have HC := Lib.hid hc; have HR := Lib.hid hr; clear hr
  have hBs := World.block_lt_of_cell? _ _ hc
  have HBS := Lib.hid hBs
  clear hc hBs
  have HD := Lib.hid (Below.refl w.heap.size w)
  have HOA := Lib.hid (HP.nil (W := w) (B := w.heap.size))
  have HMK := Lib.hid (Marks.nil w.heap.size w)
  refine (callsIn_wide (n := 5)).1 ?_
  refine callsIn_of_wp_marks Tryd.func47 rfl trivial ?_ rfl
  simp only [Tryd.ntmps47, List.size_toArray, List.length_cons, List.length_nil, Nat.reduceAdd, Nat.reduceSub, Array.replicate_succ, Array.replicate_zero, List.push_toArray, List.append_toArray, List.nil_append, List.cons_append]
  refine wpIn_wide.2 ?_
  go_upto_region 1 with (fail)
  have hd : Below w.heap.size w (w.alloc (.cells #[.slice none 0 0] 23)) := (Below.refl _ _).alloc (Nat.le_refl _) _
  have ho := owX_ok w 23 (.slice none 0 0)
  generalize hW : World.alloc w _ = W1 at *
  clear hW
  replace HOA := Lib.hid (show HP _ _ (.fl (owI (.slice none 0 0) []) :: _) from HOA.out.pushNil _ _)
  replace HOA := Lib.hid (HOA.out.call hd HD.out.size ho); clear ho
  replace HD := Lib.hid (HD.out.trans (hd.mono HD.out.size))
  replace HMK := Lib.hid (HMK.out.nc (NC.of_below hd))
  clear hd
  go_wp2_with fail
  have HDk := HD
  refine (wpIn_wide (n := 5)).1 (wp_vals (A := A) (cap := cap) (xs := l) (Bs := Bs) (by omega) hlen rfl rfl (fun rest W => ∃ (x : List Int) (V : Value), x ++ rest = l ∧ Hid (Below w.heap.size w W) ∧ Hid (NC W1 W) ∧ Hid (HP W w.heap.size [.fl (owX 23 (some ⟨w.heap.size, 0, none⟩) V), .fl (owI V x)])) ?hI ?hIK ⟨[], (.slice none 0 0), rfl, HD, Lib.hid (NC.refl _), HOA⟩ ?a1 ?assign ?body ?done)
  case hI =>
    rintro rest W W' ⟨x, V, he, hd, hn, hh⟩ hk
    exact ⟨x, V, he, Lib.hid (hk.below hd.out HDk.out.size (Nat.le_refl _)), Lib.hid (hn.out.keepC hk (Nat.le_refl _)), Lib.hid (hh.out.keepC hk)⟩
  case hIK =>
    rintro rest W ⟨x, V, he, hd, hn, hh⟩
    exact ⟨(hd.out.cell (p := ⟨Bs, 0, none⟩) HBS.out).trans HC.out, rdI hd.out HR.out⟩
  case assign =>
    intro l x W K hK
    gi_wp2
    exact hK
  case body =>
    rintro l2 xn rest W2 ⟨x, V, he, HD, HN, HOA⟩ J hJ Q1 hQ
    have HNB := Lib.hid (NC.refl W2)
    obtain ⟨A3, cap3, he2, _⟩ := HP.open_I HOA.out (List.Mem.tail _ (List.Mem.head _))
    subst he2
    have fb := HP.bx HOA.out (List.Mem.head _)
    have hxl : x.length < 1000000000 := by
      have := congrArg List.length he
      simp at this; omega
    obtain ⟨V4, W4, hrun, hoa, hb, hn⟩ := run_appI (e' := 3) (y := xn) (L1 := [_]) W2 23 23 Tryd.underlying23 HOA.out hxl HD.out.size
    obtain ⟨A5, cap5, he3, _⟩ := HP.open_I hoa (List.Mem.tail _ (List.Mem.head _))
    obtain ⟨n5, hn3⟩ : ∃ n, List.length (x ++ [xn]) = n := ⟨_, rfl⟩
    rw [hn3] at he3; subst he3; clear hn3
    obtain ⟨q0, q1, hp, hb2⟩ := HP.setBx (its1 := []) hoa (.slice A5 n5 cap5)
    have HP_ := Lib.hid hp; have HB_ := Lib.hid hb2; clear hp hb2 hoa
    have HR_ := Lib.hid hrun; have HN_ := Lib.hid hn; have HOB := Lib.hid hb; clear hrun hn hb
    have HE := Lib.hid he; clear he
    gi_wp2_with (gi_at_builtin; refine wpIn_appRun HR_.out rfl rfl rfl rfl ?_)
    have hp := HP_.out; clear HP_ HR_
    replace HNB := Lib.hid (HNB.out.trans (HN_.out.trans (NC.setCell W4 ⟨w.heap.size, 0, none⟩ (.slice A5 n5 cap5))))
    have hb := HOB.out.trans HB_.out
    generalize hW : World.setCell W4 _ _ = W6 at *
    clear hW HB_ HOB HN_
    try clear q0 q1 fb
    replace HD := Lib.hid (HD.out.trans hb); clear hb
    try gi_wp2_with fail
    exact ⟨HNB.out, hJ _ ⟨x ++ [xn], (.slice A5 n5 cap5), by rw [List.append_assoc]; exact HE.out, HD, Lib.hid (HN.out.trans HNB.out), Lib.hid hp⟩⟩
  case done =>
    rintro D W3 hD ⟨x, V, he, HD, HN, HOA⟩ hK
    replace HMK := Lib.hid (HMK.out.push HN.out hD HDk.out.size hK); clear hK hD HN
    rw [List.append_nil] at he
    subst he
    obtain ⟨A4, cap4, he2, _⟩ := HP.open_I HOA.out (List.Mem.tail _ (List.Mem.head _))
    subst he2
    have fb := HP.bx HOA.out (List.Mem.head _)
    go_wp2_with fail
    clear fb
    have hown : Ow.ok W3 w.heap.size (owI (.slice A4 x.length cap4) x) := HOA.out.get (List.Mem.tail _ (List.Mem.head _))
    refine leave_marks (B := w.heap.size) _ _ HMK.out (fun W' => results_tmp rfl _ _ _) (fun W' hk => ⟨.slice A4 x.length cap4, rfl, hk.own hown, hk.below HD.out (Nat.le_refl _) (Nat.le_refl _)⟩)
end Go.Proofs.YtabkmceajgpdjaaDoor
