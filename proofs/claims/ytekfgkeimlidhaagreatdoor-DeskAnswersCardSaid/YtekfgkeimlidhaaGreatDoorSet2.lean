import Derived.Test.YtekfgkeimlidhaaGreatDoorEach
import Derived.Maps.AppendAt
set_option linter.all false
set_option maxRecDepth 100000
namespace Go.Proofs.YtekfgkeimlidhaaGreatDoor
open Go.RowKit Go.Shelf Pl
attribute [local go_sem] Oper.semAt_some
/-- append(out, x) in a round: x lies in a new block of its own. -/
theorem wpIn_app1 {F : Fence} {n' : Nat} {P : Program} {ops : Array Oper} {rest : List Oper} {o : Oper} {a : Act} {Q : Exit → Act → World → Prop} (W : World) (s x : Operand) (t : TypeId) (hgd : o.guard = none)
    (ho : o.op = .call { callee := .builtin .append, args := #[s, x], argTypes := #[t, t] })
    (base : Nat) (e e' : TypeId) (i : TypeInfo) (z : Value) (size bytes : Nat) (ht : P.underlying t = some (.slice e)) (hi : P.info? e = some i) (hz : i.zero = some z)
    (hsize : i.size = size) (hby : i.bytes = bytes) (hzs : z.cells.size = size) (hsz : 0 < size)
    (v : Value) (n : Nat) (xs : List Value) (hs : a.eval s = v) (hown : W.ownsRow base e size v n xs)
    (news : List Value) (hx : a.eval x = .slice (some ⟨W.heap.size, 0, none⟩) 1 1) (hl : news.length = size) (h1 : ∀ u ∈ news, u.oneCell' = true)
    (hbytes : (n + 1) * bytes ≤ 140737488355328) (hb0 : 0 < bytes) (hbase : base ≤ W.heap.size)
    (h : ∀ v' w', w'.ownsRow base e size v' (n + 1) (xs ++ news) → (W.grownBy w' v.ownBlock) → (v'.ownBlock = v.ownBlock ∨ v'.ownBlock = some (W.heap.size + 1)) → Below base W w' → wpListIn F n' P ops Q rest (a.put o.dst v') w') :
    wpListIn F n' P ops Q (o :: rest) a (W.alloc (.cells news.toArray e')) := by
  have hnews : ∀ j u, news[j]? = some u → (W.alloc (.cells news.toArray e')).cell? ((⟨W.heap.size, 0, none⟩ : Addr).add j) = some u := by
    intro j u hu
    have e1 : ((⟨W.heap.size, 0, none⟩ : Addr).add j) = ⟨W.heap.size, j, none⟩ := by unfold Addr.add; split <;> simp_all
    rw [e1, cell_of_row _ _ _ _ _ _ (heap_alloc_new W _)]
    simpa using hu
  have hn63 : n + 1 ≤ maxLen := by
    have : (n + 1) * 1 ≤ (n + 1) * bytes := Nat.mul_le_mul_left _ hb0
    unfold maxLen; omega
  refine wpListIn_plain hgd fun K hK => ?_
  obtain ⟨v', w', hrun, h2, h3, h4, h5⟩ := run_append_own_at (P := P) (W.alloc (.cells news.toArray e')) base t o.type e i z size bytes ht hi hz hsize hby hzs hsz v n xs (hown.alloc _) ⟨W.heap.size, 0, none⟩ 1 1 news (by simpa using hl) hnews h1 hn63 hbytes (by simp; omega)
  have hg : W.grownBy w' v.ownBlock :=
    ⟨h3.os, h3.tape, h3.output, Nat.le_trans (by simp) h3.size, fun k hk hne => (h3.block k (by simp; omega) hne).trans (Below.heap_alloc W _ k hk)⟩
  unfold Oper.wpIn
  refine ⟨?_, ?_⟩
  · simp [Oper.about, ho, resolve, Target.leads, Sem.run_pure]
  · rw [Oper.semAt_plain F _ _ (by rw [ho]; intro c hc'; cases hc')]
    simp [execOp, ho, resolve, invoke, builtin, hs, hx, hrun, Result.andThen]
    exact hK _ _ (h v' w' h2 hg (by simpa using h5) ((Below.refl _ _).grown hg hbase (fun k hk => (hown.lt k hk).1)))
theorem pts_map {β : Type} {m : Nat} {ys : List (Pt m)} (h : ys.map (·.1) = memb m) (f : Nat → β) : ys.map (fun x => f x.1) = (memb m).map f := by
  have := congrArg (List.map f) h
  rw [List.map_map] at this
  exact this
theorem pts_len {m : Nat} {ys : List (Pt m)} (h : ys.map (·.1) = memb m) : ys.length = (memb m).length := by
  have := congrArg List.length h
  rwa [List.length_map] at this
theorem Marks.cons {B D : Nat} {ds : List Deferred} {W : World} (h : Marks B ds W) (hD : B ≤ D) (hK : W.heap[D]? = some (.deferred (some []))) (hne : ∀ d ∈ ds, d.target ≠ .collected D) :
    Marks B ({ target := .collected D, args := #[] } :: ds) W := by
  obtain ⟨Ds, rfl, hnd, hh⟩ := h
  refine ⟨D :: Ds, rfl, List.nodup_cons.2 ⟨fun hm => hne _ (List.mem_map.2 ⟨D, hm, rfl⟩) rfl, hnd⟩, fun D' hD' => ?_⟩
  rcases List.mem_cons.1 hD' with rfl | h1
  · exact ⟨hD, hK⟩
  · exact hh D' h1
theorem Marks.one {B D : Nat} {W : World} (hD : B ≤ D) (hK : W.heap[D]? = some (.deferred (some []))) : Marks B [{ target := .collected D, args := #[] }] W :=
  (Marks.nil B W).cons hD hK (by simp)
def membI (m : Nat) : List Int := (memb m).map Int.ofNat
end Go.Proofs.YtekfgkeimlidhaaGreatDoor
