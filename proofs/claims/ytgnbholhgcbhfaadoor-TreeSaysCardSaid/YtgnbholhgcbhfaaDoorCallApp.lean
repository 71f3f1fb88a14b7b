import Derived.Test.YtgnbholhgcbhfaaDoorQB
import Derived.Great.Frames
/- in a round: a region that draws its order, reads, calls a function that may lay blocks, and appends what it gives -/
set_option linter.all false
set_option maxRecDepth 100000
namespace Go.Proofs.YtgnbholhgcbhfaaDoor
open Go.RowKit Go.Sort
section
variable {P : Program} {ops : Array Oper} {md : Region.Mode} {F : Fence} {m : Nat} {Q : Exit → Act → World → Prop}
theorem wpOpIn_val (hF : Open F) {i : Nat} {o : Oper} {a : Act} {W W' : World} {v : Value} {K : Act → World → Prop} (hi : ops[i]? = some o) (hg : o.guard = none) (hdef : ∀ c, o.op ≠ .defer c)
    (hrun : (execOp a.eval o).run P W = .ok (.value v) W') (hk : K (a.put o.dst v) W') : wpOpIn F m P ops Q i K a W := by
  unfold wpOpIn
  simp only [hi]
  have hw : ∀ y, Region.wanted o y = true := fun y => by unfold Region.wanted; rw [hg]
  simp only [hw, if_true]
  unfold Oper.wpIn
  refine ⟨fun f _ => hF.fn f, ?_⟩
  rw [Oper.semAt_plain F _ _ hdef, hrun]
  exact hk
theorem wpOpIn_call (hF : Open F) {i : Nat} {o : Oper} {a : Act} {W : World} {f : FuncId} {args : Array Value} {x : Value} {K : Act → World → Prop} (hi : ops[i]? = some o) (hg : o.guard = none) (hdef : ∀ c, o.op ≠ .defer c)
    (hrun : (execOp a.eval o).run P W = .ok (.enter f args) W) (hc : Calls P f args W fun e W' => e = .returned x ∧ Below W.heap.size W W') (hk : ∀ W', Below W.heap.size W W' → K (a.put o.dst x) W') : wpOpIn F m P ops Q i K a W := by
  unfold wpOpIn
  simp only [hi]
  have hw : ∀ y, Region.wanted o y = true := fun y => by unfold Region.wanted; rw [hg]
  simp only [hw, if_true]
  unfold Oper.wpIn
  refine ⟨fun f _ => hF.fn f, ?_⟩
  rw [Oper.semAt_plain F _ _ hdef, hrun]
  refine ⟨fun hd => (by rw [hF.depth] at hd; cases hd), (hF.calls hc).mono ?_⟩
  rintro e W' ⟨rfl, hb⟩
  exact hk W' hb
def fwdC (md : Region.Mode) (ops : Array Oper) : Bool := (List.range ops.size).all fun i => match ops[i]? with
  | some o => o.after.all fun e => decide (e.on < i)
  | none => true
theorem ready_neC {ops : Array Oper} {listed : Array Bool} (hsz : listed.size = ops.size) (hf : fwdC md ops = true) : ∀ i, i < ops.size → listed.getD i true = false → Region.ready md ops listed ≠ [] := by
  intro i
  induction i using Nat.strongRecOn with
  | _ i ih =>
    intro hi hun
    by_cases hall : ∀ j, j < i → listed.getD j true = true
    · have hmem : i ∈ Region.ready md ops listed := by
        refine mem_ready.2 ⟨hun, ops[i], Array.getElem?_eq_getElem hi, fun e he _ => ?_⟩
        have h1 := List.all_eq_true.1 hf i (List.mem_range.2 hi)
        rw [Array.getElem?_eq_getElem hi] at h1
        have h2 := of_decide_eq_true (Array.all_eq_true_iff_forall_mem.1 h1 e he)
        have h3 := hall e.on h2
        have : e.on < listed.size := by omega
        simp [this] at h3 ⊢; exact h3
      intro e; rw [e] at hmem; cases hmem
    · have : ∃ j, j < i ∧ listed.getD j true = false := by
        apply Classical.byContradiction
        intro hn
        refine hall fun j hj => ?_
        cases e : listed.getD j true
        · exact absurd ⟨j, hj, e⟩ hn
        · rfl
      obtain ⟨j, hj, hj2⟩ := this
      exact ih j hj (by omega) hj2
/-- what is not listed yet -/
def undone (listed : Array Bool) : Nat := (listed.toList.filter fun b => !b).length
theorem undone_set {listed : Array Bool} {i : Nat} (h : listed.getD i true = false) : undone (listed.setIfInBounds i true) + 1 = undone listed := by
  have hi : i < listed.size := by
    rcases Nat.lt_or_ge i listed.size with q | q
    · exact q
    · simp [Array.getElem?_eq_none q] at h
  have key : ∀ (l : List Bool) (i : Nat) (hi : i < l.length), l[i] = false → ((l.set i true).filter fun b => !b).length + 1 = (l.filter fun b => !b).length := by
    intro l
    induction l with
    | nil => intro i hi; cases hi
    | cons b l ih =>
      intro i hi he
      cases i with
      | zero => simp at he; subst he; simp
      | succ i =>
        have := ih i (by simpa using hi) (by simpa using he)
        cases b <;> simp_all
  have hl : listed.toList[i]'(by simpa using hi) = false := by simpa [hi] using h
  unfold undone
  rw [Array.toList_setIfInBounds]
  exact key _ i _ hl
def heads (n : Nat) : Array Bool := (List.replicate (n + 2) true ++ [false, false]).toArray
def chkCA (l : List Oper) (n K : Nat) : Bool :=
  Region.sinkB .any l.toArray (n + 2) && (Region.chainB .any l.toArray (n + 2) && (fwdC .any l.toArray && ((l.all fun o => o.guard.isNone) && (noDefer l &&
    (Region.waitsFor .any l.toArray (n + 1) n && (((List.range n).all fun i => i == 0 || Region.waitsFor .any l.toArray n i) && (Region.seqB .any l.toArray 2 (n + 2) (heads n) &&
      (((l.take (n + 2)).all fun o => o.dst.isSome && decide (K ≤ o.dst.getD 0)) && decide (((l.take (n + 2)).map fun o => o.dst.getD 0).Nodup)))))))))
theorem wpIn_region_callapp (hF : Open F) {id : Nat} {a0 : Act} {w : World} {l : List Oper} (n K : Nat) {f : FuncId} {args : Array Value} {x : Value} {e' : TypeId} {vals : Nat → Value} (hm : P.follows .mixedOrders = true) (hlen : l.length = n + 4)
    (hchk : chkCA l n K = true) (hsz0 : ∀ o ∈ l.take (n + 2), o.dst.getD 0 < a0.tmps.size)
    (hread : ∀ i o, l[i]? = some o → i < n → ∀ (a : Act) (W : World), (∀ t, t < K → a.eval (.tmp t) = a0.eval (.tmp t)) → Below w.heap.size w W → (execOp a.eval o).run P W = .ok (.value (vals i)) W)
    (hcall : ∀ o, l[n]? = some o → ∀ (a : Act) (W : World), (∀ t, t < K → a.eval (.tmp t) = a0.eval (.tmp t)) → (∀ i oi, 1 ≤ i → i < n → l[i]? = some oi → a.eval (.tmp (oi.dst.getD 0)) = vals i) → Below w.heap.size w W →
      (execOp a.eval o).run P W = .ok (.enter f args) W ∧ Calls P f args W fun e W' => e = .returned x ∧ Below W.heap.size W W')
    (hbuild : ∀ o oc, l[n+1]? = some o → l[n]? = some oc → ∀ (a : Act) (W : World), a.eval (.tmp (oc.dst.getD 0)) = x → (execOp a.eval o).run P W = .ok (.value (.slice (some ⟨W.heap.size, 0, none⟩) 1 1)) (W.alloc (.cells #[x] e')))
    (htail : ∀ (a : Act) (W : World), Below w.heap.size w W → (∀ t, t < K → a.eval (.tmp t) = a0.eval (.tmp t)) → a.tmps.size = a0.tmps.size → (0 < n → ∀ o, l[0]? = some o → a.eval (.tmp (o.dst.getD 0)) = vals 0) → (∀ o, l[n+1]? = some o → a.eval (.tmp (o.dst.getD 0)) = .slice (some ⟨W.heap.size, 0, none⟩) 1 1) →
      wpListIn F m P l.toArray Q (l.drop (n + 2)) a (W.alloc (.cells #[x] e'))) :
    (Code.region id l.toArray true).wpIn F m P Q a0 w := by
  unfold chkCA at hchk
  simp only [Bool.and_eq_true] at hchk
  obtain ⟨k1, k2, k3, k4, k5, k6, k7, k8, k9, k10⟩ := hchk
  have hgu : ∀ o ∈ l, o.guard = none := fun o ho => by simpa using List.all_eq_true.1 k4 o ho
  have hnd := of_decide_eq_true k10
  have hsize : l.toArray.size = n + 4 := by simp [hlen]
  have hopt : ∀ i, l.toArray[i]? = l[i]? := fun i => List.getElem?_toArray ..  
  have hdst : ∀ i o, l[i]? = some o → i < n + 2 → o.dst = some (o.dst.getD 0) ∧ K ≤ o.dst.getD 0 ∧ o.dst.getD 0 < a0.tmps.size := fun i o ho hi => by
    have hmem : o ∈ l.take (n + 2) := List.mem_of_getElem? (i := i) (by rw [List.getElem?_take_of_lt hi]; exact ho)
    have := List.all_eq_true.1 k9 o hmem
    simp only [Bool.and_eq_true, decide_eq_true_eq] at this
    refine ⟨?_, this.2, hsz0 o hmem⟩
    obtain ⟨d, hd⟩ := Option.isSome_iff_exists.1 this.1
    rw [hd]; rfl
  have hne : ∀ i j oi oj, l[i]? = some oi → l[j]? = some oj → i < n + 2 → j < n + 2 → i ≠ j → oi.dst.getD 0 ≠ oj.dst.getD 0 := fun i j oi oj h1 h2 hi hj hij e => by
    have e1 : ((l.take (n + 2)).map fun o => o.dst.getD 0)[i]? = some (oi.dst.getD 0) := by rw [List.getElem?_map, List.getElem?_take_of_lt hi, h1]; rfl
    have e2 : ((l.take (n + 2)).map fun o => o.dst.getD 0)[j]? = some (oj.dst.getD 0) := by rw [List.getElem?_map, List.getElem?_take_of_lt hj, h2]; rfl
    obtain ⟨q1, r1⟩ := List.getElem?_eq_some_iff.1 e1
    obtain ⟨q2, r2⟩ := List.getElem?_eq_some_iff.1 e2
    have hpw := List.pairwise_iff_getElem.1 hnd
    rcases Nat.lt_or_gt_of_ne hij with c | c
    · exact hpw i j q1 q2 c (r1.trans (e.trans r2.symm))
    · exact hpw j i q2 q1 c (r2.trans (e.symm.trans r1.symm))
  refine wpIn_region_any hm ?_
  have main : ∀ (fuel : Nat) (listed : Array Bool) (a : Act) (W : World), HeadInv .any l.toArray (n + 2) listed → undone listed = fuel → a.tmps.size = a0.tmps.size → (∀ t, t < K → a.eval (.tmp t) = a0.eval (.tmp t)) →
      (∀ i o, i < n → l[i]? = some o → listed.getD i false = true → a.eval (.tmp (o.dst.getD 0)) = vals i) → (∀ o, l[n]? = some o → listed.getD n false = true → a.eval (.tmp (o.dst.getD 0)) = x) →
      ((listed.getD (n+1) true = false ∧ Below w.heap.size w W) ∨ (listed.getD (n+1) false = true ∧ ∃ W', Below w.heap.size w W' ∧ W = W'.alloc (.cells #[x] e') ∧ ∀ o, l[n+1]? = some o → a.eval (.tmp (o.dst.getD 0)) = .slice (some ⟨W'.heap.size, 0, none⟩) 1 1)) →
      wpAnyIn F m P .any l.toArray Q fuel listed a W := by
    intro fuel
    induction fuel with
    | zero =>
      intro listed a W inv hund
      exfalso
      have h1 := inv.tail (n + 2) (Nat.le_refl _) (by omega)
      have hi : n + 2 < listed.size := by rw [inv.size]; omega
      have hl : listed.toList[n+2]'(by simpa using hi) = false := by simpa [hi] using h1
      unfold undone at hund
      have : false ∈ listed.toList.filter fun b => !b := List.mem_filter.2 ⟨by rw [← hl]; exact List.getElem_mem _, rfl⟩
      rw [List.eq_nil_of_length_eq_zero hund] at this
      cases this
    | succ fuel ih =>
      intro listed a W inv hund hs hlow hv hx hph
      have hB : Below w.heap.size w W := by
        rcases hph with ⟨_, h⟩ | ⟨_, W', h, rfl, _⟩
        · exact h
        · exact h.alloc h.size _
      by_cases hall : ∀ j, j < n + 2 → listed.getD j true = true
      · -- all but the end is done
        have hle : listed = heads n := by
          apply Array.ext
          · rw [inv.size, hsize]; simp [heads]
          · intro i h1 h2
            by_cases c : i < n + 2
            · have := hall i c
              simp [h1] at this
              rw [this]; simp [heads, List.getElem_append, c]
            · have := inv.tail i (by omega) (by rw [← inv.size]; exact h1)
              simp [h1] at this
              rw [this]
              have h3 : i < n + 4 := by rw [← hsize, ← inv.size]; exact h1
              have h4 : i - (n + 2) < 2 := by omega
              simp only [heads, List.getElem_toArray]
              rw [List.getElem_append_right (by simp; omega)]
              simp only [List.length_replicate]
              have : i - (n+2) = 0 ∨ i - (n+2) = 1 := by omega
              rcases this with e | e <;> simp [e]
        have hfu : fuel + 1 = 2 := by
          rw [← hund, hle]; unfold undone heads
          simp [List.filter_append, List.filter_replicate]
        rcases hph with ⟨h, _⟩ | ⟨_, W', hW, rfl, hsl⟩
        · rw [hall (n+1) (by omega)] at h; cases h
        · have hd : (l.drop (n + 2)).length = 2 := by rw [List.length_drop]; omega
          rw [hfu, ← hd]
          refine wpAnyIn_of_seq (l.drop (n + 2)) (n + 2) listed a _ (fun j => by rw [hopt, List.getElem?_drop]) (by rw [hd, hle]; exact k8) ?_
          have tr : ∀ j, j < n + 2 → listed.getD j false = true := fun j hj => by
            have := hall j hj
            have hjs : j < listed.size := by rw [inv.size]; omega
            simp [hjs] at this ⊢; exact this
          exact htail a W' hW hlow hs (fun h0 o ho => hv 0 o h0 ho (tr 0 (by omega))) hsl
      · have : ∃ j, j < n + 2 ∧ listed.getD j true = false := by
          apply Classical.byContradiction
          intro hn
          refine hall fun j hj => ?_
          cases e : listed.getD j true
          · exact absurd ⟨j, hj, e⟩ hn
          · rfl
        obtain ⟨j0, hj0, hj1⟩ := this
        refine ⟨fun h0 => absurd h0 (ready_neC inv.size k3 j0 (by omega) hj1), fun i hi => ?_⟩
        have hil : i < n + 2 := by
          rcases Nat.lt_or_ge i (n + 2) with h | h
          · exact h
          · exact absurd hi (tail_waits k1 k2 (by omega) inv _ j0 rfl hj0 hj1 i h)
        obtain ⟨hun, oi, hoi, haft⟩ := mem_ready.1 hi
        rw [hopt] at hoi
        have hgi := hgu oi (List.mem_of_getElem? hoi)
        have hdi : ∀ c, oi.op ≠ .defer c := noDefer_spec k5 i oi (by rw [hopt]; exact hoi)
        obtain ⟨d1, d2, d3⟩ := hdst i oi hoi hil
        have hu' := undone_set hun
        have hund' : undone (listed.setIfInBounds i true) = fuel := by omega
        have inv' := inv.set hi hil
        have low' : ∀ v t, t < K → (a.put oi.dst v).eval (.tmp t) = a0.eval (.tmp t) := fun v t ht => by
          rw [d1, Act.eval_put_ne a _ t v (by omega)]; exact hlow t ht
        have siz' : ∀ v, (a.put oi.dst v).tmps.size = a0.tmps.size := fun v => by rw [Act.size_put]; exact hs
        have old : ∀ v j oj, l[j]? = some oj → j < n + 2 → j ≠ i → (a.put oi.dst v).eval (.tmp (oj.dst.getD 0)) = a.eval (.tmp (oj.dst.getD 0)) := fun v j oj hoj hj hji => by
          rw [d1]; exact Act.eval_put_ne a _ _ v (hne i j oi oj hoi hoj hil hj (Ne.symm hji))
        have same : ∀ v, (a.put oi.dst v).eval (.tmp (oi.dst.getD 0)) = v := fun v => by
          have := Act.eval_put_same a (oi.dst.getD 0) v (by rw [hs]; exact d3)
          rwa [← d1] at this
        have lst : ∀ j, j ≠ i → (listed.setIfInBounds i true).getD j false = true → listed.getD j false = true := fun j hj h => by
          rw [getD_set_ne false (Ne.symm hj)] at h; exact h
        have waits : ∀ j, Region.waitsFor .any l.toArray i j = true → listed.getD j false = true := fun j hj => by
          obtain ⟨oj, h1, e, he, hb, hon⟩ := Region.waitsFor_spec hj
          rw [hopt] at h1
          have : oj = oi := Option.some.inj (h1.symm.trans hoi)
          subst this
          rw [← hon]; exact haft e he hb
        by_cases c1 : i < n
        · -- it reads
          refine wpOpIn_val hF (by rw [hopt]; exact hoi) hgi hdi (hread i oi hoi c1 a W hlow hB) ?_
          refine ih _ _ _ inv' hund' (siz' _) (low' _) (fun j o hj ho hl => ?_) (fun o ho hl => ?_) ?_
          · by_cases e : j = i
            · subst e
              have : o = oi := Option.some.inj (ho.symm.trans hoi)
              subst this; exact same _
            · rw [old _ j o ho (by omega) e]; exact hv j o hj ho (lst j e hl)
          · rw [old _ n o ho (by omega) (by omega)]; exact hx o ho (lst n (by omega) hl)
          · rcases hph with ⟨h1, h2⟩ | ⟨h1, W', h2, h3, h4⟩
            · exact .inl ⟨by rw [getD_set_ne true (by omega)]; exact h1, h2⟩
            · exact .inr ⟨getD_set_true h1, W', h2, h3, fun o ho => by rw [old _ (n+1) o ho (by omega) (by omega)]; exact h4 o ho⟩
        · by_cases c2 : i = n
          · -- it calls
            subst c2
            rcases hph with ⟨h1, h2⟩ | ⟨h1, _⟩
            · obtain ⟨r1, r2⟩ := hcall oi hoi a W hlow (fun j oj hj1 hjn hoj => by
                have := List.all_eq_true.1 k7 j (List.mem_range.2 hjn)
                simp only [Bool.or_eq_true, beq_iff_eq] at this
                rcases this with q | q
                · omega
                · exact hv j oj hjn hoj (waits j q)) h2
              refine wpOpIn_call hF (by rw [hopt]; exact hoi) hgi hdi r1 r2 fun W' hW' => ?_
              have hBW : Below w.heap.size w W' := h2.trans (hW'.mono h2.size)
              refine ih _ _ _ inv' hund' (siz' _) (low' _) (fun j o hj ho hl => ?_) (fun o ho hl => ?_) (.inl ⟨by rw [getD_set_ne true (by omega)]; exact h1, hBW⟩)
              · rw [old _ j o ho (by omega) (by omega)]; exact hv j o hj ho (lst j (by omega) hl)
              · have : o = oi := Option.some.inj (ho.symm.trans hoi)
                subst this; exact same _
            · exfalso
              obtain ⟨oj, q1, e, he, hb, hon⟩ := Region.waitsFor_spec k6
              have := inv.closed _ oj q1 h1 e he hb
              rw [hon, getD_both hun] at this; cases this
          · -- it lays the row
            have c3 : i = n + 1 := by omega
            subst c3
            rcases hph with ⟨h1, h2⟩ | ⟨h1, _⟩
            · have hcl : n < l.length := by omega
              have hoc : l[n]? = some l[n] := List.getElem?_eq_getElem hcl
              have hxv := hx _ hoc (waits n k6)
              refine wpOpIn_val hF (by rw [hopt]; exact hoi) hgi hdi (hbuild oi _ hoi hoc a W hxv) ?_
              refine ih _ _ _ inv' hund' (siz' _) (low' _) (fun j o hj ho hl => ?_) (fun o ho hl => ?_) (.inr ⟨?_, W, h2, rfl, fun o ho => ?_⟩)
              · rw [old _ j o ho (by omega) (by omega)]; exact hv j o hj ho (lst j (by omega) hl)
              · rw [old _ n o ho (by omega) (by omega)]; exact hx o ho (lst n (by omega) hl)
              · have : n + 1 < listed.size := by rw [inv.size]; omega
                simp [this]
              · have : o = oi := Option.some.inj (ho.symm.trans hoi)
                subst this; exact same _
            · have := getD_both hun; rw [h1] at this; cases this
  refine main _ _ _ _ ⟨by simp, fun j oj _ hl' => (by rw [getD_replicate_false] at hl'; cases hl'), fun t _ ht => getD_in (by simpa using ht) (getD_replicate_false _ _)⟩ ?_ rfl (fun _ _ => rfl) (fun i o _ _ h => (by rw [getD_replicate_false] at h; cases h)) (fun o _ h => (by rw [getD_replicate_false] at h; cases h)) (.inl ⟨getD_in (by rw [Array.size_replicate, hsize]; omega) (getD_replicate_false _ _), ?_⟩)
  · unfold undone; simp [List.filter_replicate]
  · exact ⟨rfl, rfl, rfl, Nat.le_refl _, fun _ _ => rfl⟩
end
end Go.Proofs.YtgnbholhgcbhfaaDoor
