import Derived.Test.YtfabhdadckohdaaEach
import Derived.Maps.AppendAt
set_option linter.all false
set_option maxRecDepth 100000
namespace Go.Proofs.Ytfabhdadckohdaa
open Go.RowKit Go.Shelf Pl
attribute [local go_sem] Oper.semAt_some
/-- append(out, x) in a round: x lies in a new block of its own. -/
theorem wpIn_app1 {F : Fence} {n' : Nat} {P : Program} {ops : Array Oper} {rest : List Oper} {o : Oper} {a : Act} {Q : Exit → Act → World → Prop} (W : World) (s x : Operand) (t : TypeId) (hgd : o.guard = none)
    (ho : o.op = .call { callee := .builtin .append, args := #[s, x], argTypes := #[t, t] })
    (base : Nat) (e e' : TypeId) (i : TypeInfo) (z : Value) (size bytes : Nat) (ht : P.underlying t = some (.slice e)) (hi : P.info? e = some i) (hz : i.zero = some z)
    (hsize : i.size = size) (hby : i.bytes = bytes) (hzs : z.cells.size = size) (hsz : 0 < size)
    (v : Value) (n : Nat) (xs : List Value) (hs : a.eval s = v) (hown : W.ownsRow base e size v n xs)
    (news : List Value) (hx : a.eval x = .slice (some ⟨W.heap.size, 0, none⟩) 1 1) (hl : news.length = size) (h1 : ∀ u ∈ news, u.oneCell' = true)
    (hbytes : (n + 1) * bytes ≤ 140737488355328) (hb0 : 0 < bytes) (hbase : base ≤ W.heap.size)
    (h : ∀ v' w', w'.ownsRow base e size v' (n + 1) (xs ++ news) → (W.grownBy w' v.ownBlock) → (v'.ownBlock = v.ownBlock ∨ v'.ownBlock = some (W.heap.size + 1)) → Below base W w' → wpListIn F n' P ops Q rest (a.put o.dst v') w') :
    wpListIn F n' P ops Q (o :: rest) a (W.alloc (.cells news.toArray e')) := by
  have hnews : ∀ j u, news[j]? = some u → (W.alloc (.cells news.toArray e')).cell? ((⟨W.heap.size, 0, none⟩ : Addr).add j) = some u := by
    intro j u hu
    have e1 : ((⟨W.heap.size, 0, none⟩ : Addr).add j) = ⟨W.heap.size, j, none⟩ := by unfold Addr.add; split <;> simp_all
    rw [e1, cell_of_row _ _ _ _ _ _ (heap_alloc_new W _)]
    simpa using hu
  have hn63 : n + 1 ≤ maxLen := by
    have : (n + 1) * 1 ≤ (n + 1) * bytes := Nat.mul_le_mul_left _ hb0
    unfold maxLen; omega
  refine wpListIn_plain hgd fun K hK => ?_
  obtain ⟨v', w', hrun, h2, h3, h4, h5⟩ := run_append_own_at (P := P) (W.alloc (.cells news.toArray e')) base t o.type e i z size bytes ht hi hz hsize hby hzs hsz v n xs (hown.alloc _) ⟨W.heap.size, 0, none⟩ 1 1 news (by simpa using hl) hnews h1 hn63 hbytes (by simp; omega)
  have hg : W.grownBy w' v.ownBlock :=
    ⟨h3.os, h3.tape, h3.output, Nat.le_trans (by simp) h3.size, fun k hk hne => (h3.block k (by simp; omega) hne).trans (Below.heap_alloc W _ k hk)⟩
  unfold Oper.wpIn
  refine ⟨?_, ?_⟩
  · simp [Oper.about, ho, resolve, Target.leads, Sem.run_pure]
  · rw [Oper.semAt_plain F _ _ (by rw [ho]; intro c hc'; cases hc')]
    simp [execOp, ho, resolve, invoke, builtin, hs, hx, hrun, Result.andThen]
    exact hK _ _ (h v' w' h2 hg (by simpa using h5) ((Below.refl _ _).grown hg hbase (fun k hk => (hown.lt k hk).1)))
theorem pts_map {β : Type} {m : Nat} {ys : List (Pt m)} (h : ys.map (·.1) = memb m) (f : Nat → β) : ys.map (fun x => f x.1) = (memb m).map f := by
  have := congrArg (List.map f) h
  rw [List.map_map] at this
  exact this
theorem pts_len {m : Nat} {ys : List (Pt m)} (h : ys.map (·.1) = memb m) : ys.length = (memb m).length := by
  have := congrArg List.length h
  rwa [List.length_map] at this
theorem Marks.cons {B D : Nat} {ds : List Deferred} {W : World} (h : Marks B ds W) (hD : B ≤ D) (hK : W.heap[D]? = some (.deferred (some []))) (hne : ∀ d ∈ ds, d.target ≠ .collected D) :
    Marks B ({ target := .collected D, args := #[] } :: ds) W := by
  obtain ⟨Ds, rfl, hnd, hh⟩ := h
  refine ⟨D :: Ds, rfl, List.nodup_cons.2 ⟨fun hm => hne _ (List.mem_map.2 ⟨D, hm, rfl⟩) rfl, hnd⟩, fun D' hD' => ?_⟩
  rcases List.mem_cons.1 hD' with rfl | h1
  · exact ⟨hD, hK⟩
  · exact hh D' h1
theorem Marks.one {B D : Nat} {W : World} (hD : B ≤ D) (hK : W.heap[D]? = some (.deferred (some []))) : Marks B [{ target := .collected D, args := #[] }] W :=
  (Marks.nil B W).cons hD hK (by simp)
def membI (m : Nat) : List Int := (memb m).map Int.ofNat
set_option maxRecDepth 100000 in
set_option maxHeartbeats 2000000 in
theorem len_any (m : Nat) (hm : m < 65536) (w : World) :
    Calls Try.prog 38 #[.int .u64 (m : Int)] w fun e w' => e = .returned (.int .i64 ((memb m).length : Int)) ∧ Below w.heap.size w w' := by
  refine (callsIn_wide (n := 5)).1 ?_
  refine callsIn_of_wp_marks Try.func38 rfl trivial ?_ rfl
  simp only [Try.ntmps38, List.size_toArray, List.length_cons, List.length_nil, Nat.reduceAdd, Nat.reduceSub, Array.replicate_succ, Array.replicate_zero, List.push_toArray, List.append_toArray, List.nil_append, List.cons_append]
  gi_wp2_with (first | (refine ⟨trivial, ?_⟩; gi_at_call 33; refine (callsIn_wide.2 (each_any m _)).mono ?_; rintro e w' ⟨rfl, rfl⟩) | (gi_at_call 33; refine (callsIn_wide.2 (each_any m _)).mono ?_; rintro e w' ⟨rfl, rfl⟩))
  have bN := Boxed.new w 3 (.int .i64 0)
  have bS := Boxed.new (w.alloc (.cells #[.int .i64 0] 3)) 60 (.int .u64 (m : Int))
  rw [World.size_alloc] at bS
  have hB0 : Below w.heap.size w ((w.alloc (.cells #[.int .i64 0] 3)).alloc (.cells #[.int .u64 (m : Int)] 60)) := ((Below.refl _ w).alloc (Nat.le_refl _) _).alloc (by simp) _
  refine wp_each (m := m) (Bs := w.heap.size + 1) (by omega) hm rfl bS.cell rfl
    (fun pre W => Boxed W w.heap.size 3 (.int .i64 (pre.length : Int)) ∧ Below w.heap.size w W) (fun _ _ _ => False)
    (fun s W W' hs hk => ⟨hk.cells _ _ _ _ hs.1, hk.below hs.2 (by simp; omega) (Nat.le_refl _)⟩) (fun _ _ _ _ hs _ => hs)
    ⟨bN.alloc _, hB0⟩
    (fun x => { tmps := #[.int .u64 (m : Int), undef, .int .i64 0, .pointer (some ⟨w.heap.size, 0, none⟩), .int .u64 (m : Int), .func (.func 58) #[] #[.pointer (some ⟨w.heap.size + 1, 0, none⟩)], .int .i64 (x.1 : Int), undef, undef, undef], defers := [] }) ?assign ?body ?done ?stop
  case assign =>
    intro l x W K hK
    gi_wp2
    simpa using hK
  case body =>
    rintro l pre x W ⟨hb, hB⟩ hlt
    have hc := hb.cell
    have hf := hb.frozen
    gi_wp2
    refine ⟨Step.setCell W (by simp) _, ?_, hB.setCell (p := ⟨w.heap.size, 0, none⟩) (Nat.le_refl _) _⟩
    have := hb.set (.int .i64 ((pre.length : Int) + 1))
    simpa using this
  case done =>
    rintro D ys W hD hys ⟨hb, hB⟩ hK
    have hl : ys.length = (memb m).length := by rw [← hys]; simp
    rw [hl] at hb
    have hc := hb.cell
    have HYS := Lib.hid hys; clear hys hl
    gi_wp2
    refine leave_marks (B := w.heap.size) _ W (Marks.one (by simp at hD; omega) hK) (fun W' => results_tmp rfl _ _ _) (fun W' hk => ⟨rfl, hk.below hB (Nat.le_refl _) (Nat.le_refl _)⟩)
  case stop =>
    rintro D c pre W _ _ h _
    exact h.elim
theorem int_info : (Try.prog.info? 3).map (fun i => (i.zero, i.size, i.bytes)) = some (some (.int .i64 0), 1, 8) := by kernel_rfl
set_option maxRecDepth 100000 in
set_option maxHeartbeats 2000000 in
theorem appendSeq_any (m Bs : Nat) (hm : m < 65536) (w : World) (hc : w.cell? ⟨Bs, 0, none⟩ = some (setV m)) :
    Calls Try.prog 66 #[.slice none 0 0, .func (.func 58) #[] #[.pointer (some ⟨Bs, 0, none⟩)]] w fun e w' => ∃ v, e = .returned v ∧
      w'.ownsRow w.heap.size 3 1 v (membI m).length ((membI m).map (Value.int .i64)) ∧ Below w.heap.size w w' := by
  obtain ⟨i0, hi0, hz0, hz1, hz2⟩ := info_parts int_info
  have hBsl : Bs < w.heap.size := World.block_lt_of_cell? _ _ hc
  have bO := Boxed.new w 23 (.slice none 0 0)
  have hc1 : (w.alloc (.cells #[.slice none 0 0] 23)).cell? ⟨Bs, 0, none⟩ = some (setV m) := by rw [World.cell?_alloc_lt _ _ ⟨Bs, 0, none⟩ hBsl]; exact hc
  have hB0 : Below w.heap.size w (w.alloc (.cells #[.slice none 0 0] 23)) := (Below.refl _ w).alloc (Nat.le_refl _) _
  refine (callsIn_wide (n := 5)).1 ?_
  refine callsIn_of_wp_marks Try.func66 rfl trivial ?_ rfl
  simp only [Try.ntmps66, List.size_toArray, List.length_cons, List.length_nil, Nat.reduceAdd, Nat.reduceSub, Array.replicate_succ, Array.replicate_zero, List.push_toArray, List.append_toArray, List.nil_append, List.cons_append]
  have HC := Lib.hid hc; have HC1 := Lib.hid hc1; clear hc hc1
  gi_wp2
  refine wp_each (m := m) (Bs := Bs) (by omega) hm rfl HC1.out rfl
    (fun pre W => (∃ v, Boxed W w.heap.size 23 v ∧ W.ownsRow (w.heap.size + 1) 3 1 v pre.length (pre.map (fun x : Pt m => Value.int .i64 (x.1 : Int)))) ∧ Below w.heap.size w W) (fun _ _ _ => False)
    (fun s W W' ⟨⟨v, h1, h2⟩, h3⟩ hk => ⟨⟨v, hk.cells _ _ _ _ h1, hk.own h2⟩, hk.below h3 (by simp) (Nat.le_refl _)⟩) (fun _ _ _ _ hs _ => hs)
    ⟨⟨_, bO, World.ownsRow_nil _ _ _ _⟩, hB0⟩
    (fun x => { tmps := #[.slice none 0 0, .func (.func 58) #[] #[.pointer (some ⟨Bs, 0, none⟩)], .pointer (some ⟨w.heap.size, 0, none⟩), undef, .slice none 0 0, .int .i64 (x.1 : Int), .func (.func 58) #[] #[.pointer (some ⟨Bs, 0, none⟩)], .int .i64 (x.1 : Int), undef, undef, undef, undef, undef], defers := [] }) ?assign ?body ?done ?stop
  case assign =>
    intro l x W K hK
    gi_wp2
    simpa using hK
  case body =>
    rintro l pre x W ⟨⟨v, hb, ho⟩, hB⟩ hlt
    have hbc := hb.cell
    have hbf := hb.frozen
    have hsz : w.heap.size + 1 ≤ W.heap.size := by have := hb.lt; omega
    gi_wp2_with (gi_at_builtin; refine wpIn_app1 W (.tmp 8) (.tmp 10) 23 rfl rfl (w.heap.size + 1) 3 3 i0 _ 1 8 Try.underlying23 hi0 hz0 hz1 hz2 rfl (by omega) v pre.length _ rfl ho [.int .i64 (x.1 : Int)] rfl rfl (by simp [Value.oneCell']) (by omega) (by omega) hsz ?_; intro v' W2 hown' hgr hat hbel; obtain ⟨g, cap, rfl⟩ : ∃ g cap, v' = .slice (some ⟨g, 0, none⟩) (pre.length + 1) cap := (by obtain ⟨g, cap, u, hv, _⟩ := own_at hown' (k := 0) (by omega); exact ⟨g, cap, hv⟩); have hb2 : Boxed W2 w.heap.size 23 v := hb.kept hgr (fun e => (by have := (ho.lt _ e.symm).1; omega)); have hc2 := hb2.cell; have hf2 := hb2.frozen)
    refine ⟨?_, ⟨_, hb2.set _, ?_⟩, ?_⟩
    · refine (Step.grown (b := Bs) hgr (fun g' hg' => ?_)).trans (Step.setCell W2 (by simp; omega) _)
      have h1 := (ho.lt g' hg').1
      refine ⟨by omega, ?_⟩
      rcases ho.2 with ⟨rfl, _⟩ | ⟨g2, cap2, cur, rfl, _, hh, _⟩
      · simp [Value.ownBlock] at hg'
      · simp [Value.ownBlock] at hg'; subst hg'; exact ⟨_, _, _, hh⟩
    · have := ownsRow_setCell_below (a := ⟨w.heap.size, 0, none⟩) hown' (by simp) (.slice (some ⟨g, 0, none⟩) (pre.length + 1) cap)
      simpa using this
    · exact (hB.trans (hbel.mono (by omega))).setCell (p := ⟨w.heap.size, 0, none⟩) (Nat.le_refl _) _
  case done =>
    rintro D ys W hD hys ⟨⟨v, hb, ho⟩, hB⟩ hK
    have hl : ys.length = (membI m).length := by unfold membI; rw [List.length_map]; exact pts_len hys
    have he : ys.map (fun x => Value.int .i64 (x.1 : Int)) = (membI m).map (Value.int .i64) := by rw [pts_map hys (fun i => Value.int .i64 (i : Int))]; unfold membI; rw [List.map_map]; rfl
    rw [hl, he] at ho
    have hbc := hb.cell
    have HYS := Lib.hid hys; have HO := Lib.hid ho; clear hys hl he ho
    gi_wp2
    refine leave_marks (B := w.heap.size) _ W (Marks.one (by simp at hD; omega) hK) (fun W' => results_tmp rfl _ _ _) (fun W' hk => ⟨v, rfl, own_weak (hk.own HO.out) (by omega), hk.below hB (Nat.le_refl _) (Nat.le_refl _)⟩)
  case stop =>
    rintro D c pre W _ _ h _
    exact h.elim
theorem collect_any (m Bs : Nat) (hm : m < 65536) (w : World) (hc : w.cell? ⟨Bs, 0, none⟩ = some (setV m)) :
    Calls Try.prog 53 #[.func (.func 58) #[] #[.pointer (some ⟨Bs, 0, none⟩)]] w fun e w' => ∃ v, e = .returned v ∧
      w'.ownsRow w.heap.size 3 1 v (membI m).length ((membI m).map (Value.int .i64)) ∧ Below w.heap.size w w' := by
  have HA := Lib.hid (appendSeq_any m Bs hm w hc)
  clear hc
  go_enter Try.func53, Try.ntmps53
  go_wp2_with fail
  refine HA.out.mono ?_; rintro e w1 ⟨v, rfl, ho, hb⟩
  have HO := Lib.hid ho; have HB := Lib.hid hb; clear ho hb
  go_wp2_with fail
  go_ret
  exact ⟨v, rfl, HO.out, HB.out⟩
theorem list_any (m : Nat) (hm : m < 65536) (w : World) :
    Calls Try.prog 26 #[.int .u64 (m : Int)] w fun e w' => ∃ v, e = .returned v ∧
      w'.ownsRow w.heap.size 3 1 v (membI m).length ((membI m).map (Value.int .i64)) ∧ Below w.heap.size w w' := by
  have HA := Lib.hid (collect_any m w.heap.size hm (w.alloc (.cells #[.int .u64 (m : Int)] 60)) (Boxed.new w _ _).cell)
  go_enter Try.func26, Try.ntmps26
  go_wp2_with fail
  refine (each_any m w).mono ?_; rintro e w' ⟨rfl, rfl⟩
  go_wp2_with fail
  refine HA.out.mono ?_; rintro e w1 ⟨v, rfl, ho, hb⟩
  have HO := Lib.hid ho; have HB := Lib.hid hb; clear ho hb
  go_wp2_with fail
  go_ret
  exact ⟨v, rfl, own_weak HO.out (by simp), ((Below.refl _ w).alloc (Nat.le_refl _) _).trans (HB.out.mono (by simp))⟩
end Go.Proofs.Ytfabhdadckohdaa
