import Derived.Test.YtfabhdadckohdaaBox
import Derived.Test.YtfabhdadckohdaaQB
import Derived.Shelf.SlSortCmp.Insertion1
import Derived.StillTail
import Derived.Great.Frames
/- a region that draws its order, reads, and at its end boxes a value: the allocation may stand anywhere -/
set_option linter.all false
set_option maxRecDepth 100000
namespace Go.Proofs.Ytfabhdadckohdaa
open Go.RowKit Go.Sort
def readOp : Op → Bool
  | .move _ => true
  | .assign _ => true
  | .load .. => true
  | .fieldAddr .. => true
  | .indexAddr .. => true
  | .binOp .. => true
  | _ => false
theorem val_of {P : Program} {s : Sem Value} {nx : Next} {w w' : World} (h : (s >>= fun x => (pure (Next.value x) : Sem Next)).run P w = .ok nx w') : ∃ u, nx = .value u := by
  rw [Sem.run_bind] at h
  cases e : s.run P w with
  | ok x w1 =>
    rw [e] at h
    have h2 : (Result.ok (Next.value x) w1 : Result Next) = .ok nx w' := h
    injection h2 with h3 _
    exact ⟨x, h3.symm⟩
  | halt x w1 => rw [e] at h; cases h
theorem read_value {P : Program} {o : Oper} (h : readOp o.op = true) {ρ : Operand → Value} {w w' : World} {nx : Next} (hr : (execOp ρ o).run P w = .ok nx w') : ∃ u, nx = .value u := by
  unfold execOp at hr
  cases hop : o.op <;> rw [hop] at h hr <;> first
    | (exfalso; exact absurd h (by decide))
    | (exfalso; cases h; done)
    | exact val_of hr
    | (have h2 : (Result.ok (Next.value _) _ : Result Next) = .ok nx w' := hr; injection h2 with h3 _; exact ⟨_, h3.symm⟩)
section
variable {P : Program} {md : Region.Mode} {L : List Oper} {oa os : Oper} {T : TypeId} {z : Value} {da ds : Tmp}
def opsR (L : List Oper) (oa os : Oper) : Array Oper := (L ++ [oa, os]).toArray
def opsQ (L : List Oper) (oa os : Oper) (p : Value) : Array Oper := (L ++ [{ oa with op := .assign (.const p) }, { os with op := .assign (.const undef) }]).toArray
theorem ready_eq (p : Value) (listed : Array Bool) : Region.ready md (opsQ L oa os p) listed = Region.ready md (opsR L oa os) listed := by
  have hsz : (opsQ L oa os p).size = (opsR L oa os).size := by simp [opsQ, opsR]
  have hmap : (opsQ L oa os p).map (·.after) = (opsR L oa os).map (·.after) := by simp [opsQ, opsR]
  have hat : ∀ (i : Nat) (g : Edge → Bool), (((opsQ L oa os p)[i]?).map (·.after.all g)) = (((opsR L oa os)[i]?).map (·.after.all g)) := fun i g => by
    have h := congrArg (fun A => (A[i]?).map (·.all g)) hmap
    simpa [Array.getElem?_map, Option.map_map, Function.comp_def] using h
  unfold Region.ready
  rw [hsz]
  refine List.filter_congr fun i _ => ?_
  rw [hat]
theorem opsR_lt {i : Nat} (h : i < L.length) : (opsR L oa os)[i]? = some L[i] := by simp [opsR, List.getElem?_append_left h, h]
theorem opsQ_lt {i : Nat} (p : Value) (h : i < L.length) : (opsQ L oa os p)[i]? = some L[i] := by simp [opsQ, List.getElem?_append_left h, h]
theorem opsR_n : (opsR L oa os)[L.length]? = some oa := by simp [opsR]
theorem opsQ_n (p : Value) : (opsQ L oa os p)[L.length]? = some { oa with op := .assign (.const p) } := by simp [opsQ]
theorem opsR_n1 : (opsR L oa os)[L.length + 1]? = some os := by simp [opsR]
theorem opsQ_n1 (p : Value) : (opsQ L oa os p)[L.length + 1]? = some { os with op := .assign (.const undef) } := by simp [opsQ]
theorem opsR_size : (opsR L oa os).size = L.length + 2 := by simp [opsR]
def fwdB (md : Region.Mode) (ops : Array Oper) : Bool := (List.range ops.size).all fun i => match ops[i]? with
  | some o => o.after.all fun e => decide (e.on < i)
  | none => true
/-- as long as something is not done, something can be done -/
theorem ready_ne {ops : Array Oper} {listed : Array Bool} (hsz : listed.size = ops.size) (hf : fwdB md ops = true) : ∀ i, i < ops.size → listed.getD i true = false → Region.ready md ops listed ≠ [] := by
  intro i
  induction i using Nat.strongRecOn with
  | _ i ih =>
    intro hi hun
    by_cases hall : ∀ j, j < i → listed.getD j true = true
    · have hmem : i ∈ Region.ready md ops listed := by
        refine mem_ready.2 ⟨hun, ops[i], Array.getElem?_eq_getElem hi, fun e he _ => ?_⟩
        have h1 := List.all_eq_true.1 hf i (List.mem_range.2 hi)
        rw [Array.getElem?_eq_getElem hi] at h1
        have h2 := of_decide_eq_true (Array.all_eq_true_iff_forall_mem.1 h1 e he)
        have h3 := hall e.on h2
        have : e.on < listed.size := by omega
        simp [this] at h3 ⊢; exact h3
      intro e; rw [e] at hmem; cases hmem
    · have : ∃ j, j < i ∧ listed.getD j true = false := by
        apply Classical.byContradiction
        intro hn
        refine hall fun j hj => ?_
        cases e : listed.getD j true
        · exact absurd ⟨j, hj, e⟩ hn
        · rfl
      obtain ⟨j, hj, hj2⟩ := this
      exact ih j hj (by omega) hj2
abbrev Cg (w : World) : World → Prop := fun w' => ∃ p : GrownBy, w' = grow (w.drewN p.n) p.os
theorem put_none (a : Act) (v : Value) : a.put none v = a := rfl
theorem sim {w : World} {OK : Value → Prop} {Qf : Exit → Act → World → Prop} (hs : Region.sinkB md (opsR L oa os) (L.length + 1) = true) (hc : Region.chainB md (opsR L oa os) (L.length + 1) = true) (hfw : fwdB md (opsR L oa os) = true)
    (hgL : ∀ o ∈ L, o.guard = none) (hga : oa.guard = none) (hgs : os.guard = none) (hread : ∀ o ∈ L, readOp o.op = true) (hdL : ∀ o ∈ L, o.dst ≠ some da)
    (hoa : oa.op = .alloc T) (hda : oa.dst = some da) (hos : os.op = .store T (.tmp da) (.tmp ds)) (hds : os.dst = none)
    (halloc : ∀ W : World, (Instr.alloc T true (.tuple #[])).run P W = .ok (.pointer (some ⟨W.heap.size, 0, none⟩)) (W.alloc (.cells #[z] T)))
    (hstore : ∀ (W : World) (x : Value), OK x → (Instr.storeAt T (.pointer (some ⟨W.heap.size, 0, none⟩)) x).run P (W.alloc (.cells #[z] T)) = .ok () (W.alloc (.cells #[x] T))) :
    ∀ (fuel : Nat) (listed : Array Bool) (a : Act) (w' : World), HeadInv md (opsR L oa os) (L.length + 1) listed → da < a.tmps.size →
    ((listed.getD L.length true = false ∧ ∃ k, w' = w.drewN k) ∨ (listed.getD L.length false = true ∧ a.eval (.tmp da) = .pointer (some ⟨w.heap.size, 0, none⟩) ∧ ∃ k, w' = (w.drewN k).alloc (.cells #[z] T))) →
    wpAnyQ P md (opsQ L oa os (.pointer (some ⟨w.heap.size, 0, none⟩))) (Cg w) (fun a' => OK (a'.eval (.tmp ds)) ∧ ∀ k, Qf .normal a' ((w.drewN k).alloc (.cells #[a'.eval (.tmp ds)] T))) fuel listed a →
    wpAny P md (opsR L oa os) Qf fuel listed a w' := by
  intro fuel
  have hn1 : L.length + 1 < (opsR L oa os).size := by rw [opsR_size]; omega
  induction fuel with
  | zero =>
    intro listed a w' inv _ _ h
    have h1 := h.1
    rw [ready_eq] at h1
    exact absurd h1 (ready_ne inv.size hfw (L.length + 1) hn1 (inv.tail _ (Nat.le_refl _) hn1))
  | succ fuel ih =>
    intro listed a w' inv hsz hph h
    obtain ⟨_, h2⟩ := h
    rw [ready_eq] at h2
    refine ⟨fun h0 => absurd h0 (ready_ne inv.size hfw (L.length + 1) hn1 (inv.tail _ (Nat.le_refl _) hn1)), fun i hi => ?_⟩
    have hq := h2 i hi
    have hCw : Cg w w' := by
      rcases hph with ⟨_, k, e⟩ | ⟨_, _, k, e⟩
      · exact ⟨⟨k, #[]⟩, by rw [e, grow_empty]⟩
      · exact ⟨⟨k, #[.cells #[z] T]⟩, by rw [e, alloc_eq_grow]⟩
    obtain ⟨hun, oi, hoi, _⟩ := mem_ready.1 hi
    have hilt : i < L.length + 2 := by have := (Array.getElem?_eq_some_iff.1 hoi).1; rw [opsR_size] at this; exact this
    by_cases c1 : i < L.length
    · -- it reads
      have hmem := List.getElem_mem c1
      unfold qOp at hq
      rw [opsQ_lt _ c1] at hq
      unfold wpOp
      rw [opsR_lt c1]
      have hw1 : ∀ y, Region.wanted L[i] y = true := fun y => by unfold Region.wanted; rw [hgL _ hmem]
      simp only [hw1, if_true] at hq ⊢
      obtain ⟨v, v1, v2⟩ := hq
      have v3 := v1 w' hCw
      refine .inl ?_
      unfold Oper.quietAt at v3
      unfold Oper.wp
      obtain ⟨r, hr⟩ : ∃ r, (execOp a.eval L[i]).run P w' = r := ⟨_, rfl⟩
      rw [hr] at v3 ⊢
      cases r with
      | ok x w1 =>
        obtain ⟨u, rfl⟩ := read_value (hread _ hmem) hr
        obtain ⟨rfl, rfl⟩ := v3
        refine ih _ _ _ (inv.set hi (by omega)) (by rw [Act.size_put]; exact hsz) ?_ v2
        have hne : i ≠ L.length := by omega
        rcases hph with ⟨p1, p2⟩ | ⟨p1, p2, p3⟩
        · exact .inl ⟨by rw [getD_set_ne true hne]; exact p1, p2⟩
        · refine .inr ⟨getD_set_true p1, ?_, p3⟩
          rw [Act.eval_put fun d hd e => ?_]
          · exact p2
          · injection e with e; subst e; exact hdL _ hmem hd
      | halt x w1 => exact v3.elim
    · by_cases c2 : i = L.length
      · -- it lays the box
        subst c2
        rcases hph with ⟨p1, k, rfl⟩ | ⟨p1, _, _⟩
        · unfold qOp at hq
          rw [opsQ_n] at hq
          unfold wpOp
          rw [opsR_n]
          have hw1 : ∀ y, Region.wanted oa y = true := fun y => by unfold Region.wanted; rw [hga]
          have hw2 : ∀ y, Region.wanted { oa with op := .assign (.const (.pointer (some ⟨w.heap.size, 0, none⟩))) } y = true := fun y => by unfold Region.wanted; rw [hga]
          simp only [hw1, hw2, if_true] at hq ⊢
          obtain ⟨v, v1, v2⟩ := hq
          have v3 := v1 _ hCw
          have v4 : v = .pointer (some ⟨w.heap.size, 0, none⟩) := v3.2.symm
          subst v4
          refine .inl ?_
          have hrun : (execOp a.eval oa).run P (w.drewN k) = .ok (.value (.pointer (some ⟨w.heap.size, 0, none⟩))) ((w.drewN k).alloc (.cells #[z] T)) := by
            unfold execOp
            rw [hoa]
            show ((Instr.alloc T true (.tuple #[])) >>= fun x => (pure (Next.value x) : Sem Next)).run P (w.drewN k) = _
            rw [Sem.run_bind, halloc]; rfl
          unfold Oper.wp
          rw [hrun]
          show wpAny P md (opsR L oa os) Qf fuel _ (a.put oa.dst _) _
          refine ih _ _ _ (inv.set hi (by omega)) (by rw [Act.size_put]; exact hsz) (.inr ⟨?_, ?_, k, rfl⟩) v2
          · have hl : L.length < listed.size := by rw [inv.size]; omega
            simp [hl]
          · rw [hda]; exact Act.eval_put_same a da _ hsz
        · have := getD_both hun; rw [p1] at this; cases this
      · -- it stores
        have c3 : i = L.length + 1 := by omega
        subst c3
        have hall : ∀ j, j < L.length + 1 → listed.getD j true = true := fun j hj => by
          cases e : listed.getD j true
          · exact absurd hi (tail_waits hs hc hn1 inv _ j rfl hj e _ (Nat.le_refl _))
          · rfl
        rcases hph with ⟨p1, _⟩ | ⟨p1, p2, k, rfl⟩
        · have := hall L.length (by omega); rw [p1] at this; cases this
        · have hdone : Region.ready md (opsR L oa os) (listed.setIfInBounds (L.length + 1) true) = [] := by
            apply List.eq_nil_iff_forall_not_mem.2
            intro j hj
            obtain ⟨q1, oj, q2, _⟩ := mem_ready.1 hj
            have hjs : j < L.length + 2 := by have := (Array.getElem?_eq_some_iff.1 q2).1; rw [opsR_size] at this; exact this
            by_cases e : j = L.length + 1
            · subst e
              have hl : L.length + 1 < listed.size := by rw [inv.size]; exact hn1
              simp [hl] at q1
            · rw [getD_set_ne true (Ne.symm e), hall j (by omega)] at q1; cases q1
          unfold qOp at hq
          rw [opsQ_n1] at hq
          unfold wpOp
          rw [opsR_n1]
          have hw1 : ∀ y, Region.wanted os y = true := fun y => by unfold Region.wanted; rw [hgs]
          have hw2 : ∀ y, Region.wanted { os with op := .assign (.const undef) } y = true := fun y => by unfold Region.wanted; rw [hgs]
          simp only [hw1, hw2, if_true] at hq ⊢
          obtain ⟨v, _, v2⟩ := hq
          have v2 : wpAnyQ P md (opsQ L oa os (.pointer (some ⟨w.heap.size, 0, none⟩))) (Cg w) (fun a' => OK (a'.eval (.tmp ds)) ∧ ∀ k, Qf .normal a' ((w.drewN k).alloc (.cells #[a'.eval (.tmp ds)] T))) fuel (listed.setIfInBounds (L.length + 1) true) (a.put os.dst v) := v2
          rw [hds, put_none] at v2
          have hQ : OK (a.eval (.tmp ds)) ∧ ∀ k, Qf .normal a ((w.drewN k).alloc (.cells #[a.eval (.tmp ds)] T)) := by
            cases fuel with
            | zero => exact v2.2
            | succ f => exact v2.1 (by rw [ready_eq]; exact hdone)
          refine .inl ?_
          have hrun : (execOp a.eval os).run P ((w.drewN k).alloc (.cells #[z] T)) = .ok .skip ((w.drewN k).alloc (.cells #[a.eval (.tmp ds)] T)) := by
            unfold execOp
            rw [hos]
            show ((Instr.storeAt T (a.eval (.tmp da)) (a.eval (.tmp ds))) >>= fun _ => (pure Next.skip : Sem Next)).run P _ = _
            rw [Sem.run_bind, p2, show (w.heap.size) = (w.drewN k).heap.size from rfl, hstore (w.drewN k) _ hQ.1]; rfl
          unfold Oper.wp
          rw [hrun]
          show wpAny P md (opsR L oa os) Qf fuel _ (a.put os.dst _) _
          rw [hds, put_none]
          exact wpAny_done hdone (hQ.2 k) fuel
def chkB (l : List Oper) (n : Nat) (da : Tmp) : Bool :=
  Region.sinkB .any l.toArray (n + 1) && (Region.chainB .any l.toArray (n + 1) && (fwdB .any l.toArray && ((l.take n).all fun o => o.guard.isNone && (readOp o.op && !(o.dst == some da)))))
theorem boxed_end {OK : Value → Prop} {Q : Exit → Act → World → Prop} {a' : Act} {w : World} {T : TypeId} {ds : Tmp} {x : Value} (he : a'.eval (.tmp ds) = x) (hx : OK x) (h : ∀ k, Q .normal a' ((w.drewN k).alloc (.cells #[x] T))) :
    OK (a'.eval (.tmp ds)) ∧ ∀ k, Q .normal a' ((w.drewN k).alloc (.cells #[a'.eval (.tmp ds)] T)) := by rw [he]; exact ⟨hx, h⟩
theorem wp_region_boxed {id : Nat} {Q : Exit → Act → World → Prop} {a : Act} {w : World} {l : List Oper} {oa os : Oper} {T : TypeId} {z : Value} {da ds : Tmp} {OK : Value → Prop} (n : Nat) (hl : l = l.take n ++ [oa, os]) (hnl : (l.take n).length = n) (hm : P.follows .mixedOrders = true)
    (hchk : chkB l n da = true) (hga : oa.guard = none) (hgs : os.guard = none) (hoa : oa.op = .alloc T) (hda : oa.dst = some da) (hos : os.op = .store T (.tmp da) (.tmp ds)) (hds : os.dst = none)
    (hB : Region.lexB .any (opsQ (l.take n) oa os (.pointer (some ⟨w.heap.size, 0, none⟩))) = true)
    (halloc : ∀ W : World, (Instr.alloc T true (.tuple #[])).run P W = .ok (.pointer (some ⟨W.heap.size, 0, none⟩)) (W.alloc (.cells #[z] T)))
    (hstore : ∀ (W : World) (x : Value), OK x → (Instr.storeAt T (.pointer (some ⟨W.heap.size, 0, none⟩)) x).run P (W.alloc (.cells #[z] T)) = .ok () (W.alloc (.cells #[x] T)))
    (hsz : da < a.tmps.size)
    (h : wpQuiet P (opsQ (l.take n) oa os (.pointer (some ⟨w.heap.size, 0, none⟩))) (Cg w) (fun a' => OK (a'.eval (.tmp ds)) ∧ ∀ k, Q .normal a' ((w.drewN k).alloc (.cells #[a'.eval (.tmp ds)] T)))
      (l.take n ++ [{ oa with op := .assign (.const (.pointer (some ⟨w.heap.size, 0, none⟩))) }, { os with op := .assign (.const undef) }]) a) : (Code.region id l.toArray true).wp P Q a w := by
  unfold chkB at hchk
  simp only [Bool.and_eq_true] at hchk
  obtain ⟨k1, k2, k3, k4⟩ := hchk
  have e : l.toArray = opsR (l.take n) oa os := by unfold opsR; rw [← hl]
  have k5 : ∀ o ∈ l.take n, o.guard = none ∧ readOp o.op = true ∧ o.dst ≠ some da := fun o ho => by
    have := List.all_eq_true.1 k4 o ho
    simp only [Bool.and_eq_true, Option.isNone_iff_eq_none, Bool.not_eq_true', beq_eq_false_iff_ne] at this
    exact this
  obtain ⟨L, hL⟩ : ∃ L, l.take n = L := ⟨_, rfl⟩
  rw [hL] at e hB h k5 hnl
  rw [e] at k1 k2 k3 ⊢
  subst hnl
  refine wp_region_any hm ?_
  have hsz2 : (opsQ L oa os (.pointer (some ⟨w.heap.size, 0, none⟩))).size = (opsR L oa os).size := by simp [opsQ, opsR]
  refine sim k1 k2 k3 (fun o ho => (k5 o ho).1) hga hgs (fun o ho => (k5 o ho).2.1) (fun o ho => (k5 o ho).2.2) hoa hda hos hds halloc hstore _ _ _ _
    ⟨by simp, fun j oj _ hl' => (by rw [getD_replicate_false] at hl'; cases hl'), fun t _ ht => getD_in (by simpa using ht) (getD_replicate_false _ _)⟩ hsz
    (.inl ⟨getD_in (by rw [Array.size_replicate, opsR_size]; omega) (getD_replicate_false _ _), 1, rfl⟩) ?_
  simp only [Region.lexB, Bool.and_eq_true] at hB
  have := wpAnyQ_lex (C := Cg w) (md := .any) hB.1 (L ++ [{ oa with op := .assign (.const (.pointer (some ⟨w.heap.size, 0, none⟩))) }, { os with op := .assign (.const undef) }]) 0 (Array.replicate (opsR L oa os).size false) a (by simp [opsQ]) (by
    have q := hB.2
    rw [hsz2] at q
    simpa [opsR] using q) h
  simpa [opsR] using this
end
theorem set_alloc (W : World) : (Instr.alloc 60 true (.tuple #[])).run Try.prog W = .ok (.pointer (some ⟨W.heap.size, 0, none⟩)) (W.alloc (.cells #[.int .u64 0] 60)) := by
  simp [Instr.alloc, go_sem]
theorem set_store (W : World) (x : Value) (h : ∃ m : Int, x = .int .u64 m) : (Instr.storeAt 60 (.pointer (some ⟨W.heap.size, 0, none⟩)) x).run Try.prog (W.alloc (.cells #[.int .u64 0] 60)) = .ok () (W.alloc (.cells #[x] 60)) := by
  obtain ⟨m, rfl⟩ := h
  simp [Instr.storeAt, go_sem]
end Go.Proofs.Ytfabhdadckohdaa
