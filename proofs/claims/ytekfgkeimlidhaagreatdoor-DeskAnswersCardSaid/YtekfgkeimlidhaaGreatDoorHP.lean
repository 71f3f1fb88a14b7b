import Derived.Test.YtekfgkeimlidhaaGreatDoorOA2
import Derived.Deep.OwnRows
import Derived.OneCell
/- what a call owns: flat rows, and rows of rows of ints -/
set_option linter.all false
set_option maxRecDepth 100000
namespace Go.Proofs.YtekfgkeimlidhaaGreatDoor
open Go.RowKit
inductive It where
  | fl (o : Ow)
  | ro (V : Value) (ls : List (List Int))
  | tl (v : Value) (l : List Int)
  | bk (g : Nat) (ms : List Nat) (t : ByteArray) (n : Int)
/-- a value that is what is left of a row behind the first p elements -/
def TailV (vf v : Value) (p n : Nat) : Prop := (vf = v ∧ p = 0) ∨ (∃ g cap, vf = .slice (some ⟨g, 0, none⟩) (p + n) (p + cap) ∧ v = .slice (some ⟨g, p, none⟩) n cap ∧ n ≤ cap) ∨ (∃ ad, v = .slice (some ad) 0 0 ∧ n = 0)
def owV (v : Value) (vs : List Value) : Ow := ⟨62, 1, v, vs.length, vs⟩
def seg (vs : List Value) (ls : List (List Int)) : List Ow := List.zipWith owI vs ls
/-- a book's block: masks, the builder (its address, its buffer), how many -/
def owBk (g : Nat) (p V : Value) (ms : List Nat) (n : Int) : Ow := ⟨51, 11, .slice (some ⟨g, 0, none⟩) 1 1, 1, ms.map (fun m : Nat => Value.int .u64 (m : Int)) ++ [p, V, .int .i64 n]⟩
/-- a builder's buffer -/
def owU (V : Value) (t : ByteArray) : Ow := ⟨5, 0, V, t.size, Lib.strCells t⟩
def bkP (g : Nat) (p V : Value) (t : ByteArray) : Prop := (p = .pointer none ∨ p = .pointer (some ⟨g, 8, none⟩)) ∧ (V = .slice none 0 0 ∨ 0 < t.size)
inductive Fl : List It → List Ow → Prop
  | nil : Fl [] []
  | fl (o : Ow) {its : List It} {L : List Ow} : Fl its L → Fl (.fl o :: its) (o :: L)
  | ro (V : Value) {vs : List Value} {ls : List (List Int)} {its : List It} {L : List Ow} : vs.length = ls.length → Fl its L → Fl (.ro V ls :: its) (owV V vs :: (seg vs ls ++ L))
  | bk (g : Nat) {p V : Value} {ms : List Nat} {t : ByteArray} {n : Int} {its : List It} {L : List Ow} : bkP g p V t → Fl its L → Fl (.bk g ms t n :: its) (owBk g p V ms n :: owU V t :: L)
  | tl (v : Value) {vf : Value} {pre l : List Int} {its : List It} {L : List Ow} : TailV vf v pre.length l.length → Fl its L → Fl (.tl v l :: its) (owI vf (pre ++ l) :: L)
/-- the things that the call owns -/
def HP (W : World) (B : Nat) (its : List It) : Prop := ∃ L, OA W B L ∧ Fl its L
section
variable {W W' : World} {B : Nat} {its its1 its2 its' : List It} {L L1 L2 : List Ow} {o o' : Ow} {V V' v : Value} {ls : List (List Int)} {l : List Int}
theorem HP.nil : HP W B [] := ⟨[], OA.nil, .nil⟩
theorem HP.below (h : HP W B its) (hb : Below W.heap.size W W') : HP W' B its := let ⟨L, h1, h2⟩ := h; ⟨L, h1.below hb, h2⟩
theorem HP.dr (h : HP W B its) (hd : Dr W W') : HP W' B its := h.below (hd.below _)
theorem HP.call (h : HP W B its) (hb : Below W.heap.size W W') (hB : B ≤ W.heap.size) (ho : o.ok W' W.heap.size) : HP W' B (.fl o :: its) := let ⟨L, h1, h2⟩ := h; ⟨o :: L, h1.call hb hB ho, .fl o h2⟩
theorem HP.pushNil (h : HP W B its) (e : TypeId) (sz : Nat) : HP W B (.fl ⟨e, sz, .slice none 0 0, 0, []⟩ :: its) := let ⟨L, h1, h2⟩ := h; ⟨_, h1.pushNil e sz, .fl _ h2⟩
theorem HP.pushNilR (h : HP W B its) : HP W B (.ro (.slice none 0 0) [] :: its) := let ⟨L, h1, h2⟩ := h; ⟨_, h1.pushNil 62 1, .ro _ (vs := []) rfl h2⟩
theorem Fl.sub : ∀ {its' its : List It} {L : List Ow}, Fl its L → its'.Sublist its → ∃ L', Fl its' L' ∧ L'.Sublist L
  | _, _, _, .nil, .slnil => ⟨[], .nil, .slnil⟩
  | _, _, _, .fl o h, .cons _ hs => let ⟨L', h1, h2⟩ := Fl.sub h hs; ⟨L', h1, h2.cons _⟩
  | _, _, _, .fl o h, .cons₂ _ hs => let ⟨L', h1, h2⟩ := Fl.sub h hs; ⟨o :: L', .fl o h1, h2.cons₂ _⟩
  | _, _, _, .bk g e h, .cons _ hs => let ⟨L', h1, h2⟩ := Fl.sub h hs; ⟨L', h1, (h2.cons _).cons _⟩
  | _, _, _, .bk g e h, .cons₂ _ hs => let ⟨L', h1, h2⟩ := Fl.sub h hs; ⟨_, .bk g e h1, (h2.cons₂ _).cons₂ _⟩
  | _, _, _, .tl v e h, .cons _ hs => let ⟨L', h1, h2⟩ := Fl.sub h hs; ⟨L', h1, h2.cons _⟩
  | _, _, _, .tl v e h, .cons₂ _ hs => let ⟨L', h1, h2⟩ := Fl.sub h hs; ⟨_, .tl v e h1, h2.cons₂ _⟩
  | _, _, _, .ro V e h, .cons _ hs => let ⟨L', h1, h2⟩ := Fl.sub h hs; ⟨L', h1, (h2.trans (List.sublist_append_right _ _)).cons _⟩
  | _, _, _, .ro V e h, .cons₂ _ hs => let ⟨L', h1, h2⟩ := Fl.sub h hs; ⟨_, .ro V e h1, (List.Sublist.append_left h2 _).cons₂ _⟩
theorem HP.sub (h : HP W B its) (hs : its'.Sublist its) : HP W B its' := by
  obtain ⟨L, h1, h2⟩ := h
  obtain ⟨L', h3, h4⟩ := Fl.sub h2 hs
  exact ⟨L', h1.sub h4, h3⟩
theorem Fl.split : ∀ {its1 its2 : List It} {x : It} {L : List Ow}, Fl (its1 ++ x :: its2) L → ∃ L1 L2, L = L1 ++ L2 ∧ Fl its1 L1 ∧ Fl (x :: its2) L2
  | [], _, _, L, h => ⟨[], L, rfl, .nil, h⟩
  | _ :: its1, _, _, _, .fl o h => let ⟨L1, L2, e, h1, h2⟩ := Fl.split h; ⟨o :: L1, L2, by rw [e]; rfl, .fl o h1, h2⟩
  | _ :: its1, _, _, _, .bk g hl h => let ⟨L1, L2, e, h1, h2⟩ := Fl.split h; ⟨_ :: _ :: L1, L2, by rw [e]; rfl, .bk g hl h1, h2⟩
  | _ :: its1, _, _, _, .tl v hl h => let ⟨L1, L2, e, h1, h2⟩ := Fl.split h; ⟨_ :: L1, L2, by rw [e]; rfl, .tl v hl h1, h2⟩
  | _ :: its1, _, _, _, .ro V hl h => let ⟨L1, L2, e, h1, h2⟩ := Fl.split h; ⟨_, L2, by rw [e, ← List.append_assoc]; rfl, .ro V hl h1, h2⟩
theorem Fl.join : ∀ {its1 its2 : List It} {L1 L2 : List Ow}, Fl its1 L1 → Fl its2 L2 → Fl (its1 ++ its2) (L1 ++ L2)
  | _, _, _, _, .nil, h => h
  | _, _, _, _, .fl o h1, h => .fl o (Fl.join h1 h)
  | _, _, _, _, .tl v e h1, h => .tl v e (Fl.join h1 h)
  | _, _, _, _, .bk g e h1, h => .bk g e (Fl.join h1 h)
  | _, _, _, L2, .ro V (vs := vs) (ls := ls) (L := L) hl h1, h => by
    have := Fl.ro V hl (Fl.join h1 h)
    rw [← List.append_assoc] at this
    exact this
theorem HP.getAt (h : HP W B (its1 ++ .fl o :: its2)) : ∃ L1 L2, OA W B (L1 ++ o :: L2) ∧ ∀ W' o', OA W' B (L1 ++ o' :: L2) → HP W' B (its1 ++ .fl o' :: its2) := by
  obtain ⟨L, h1, h2⟩ := h
  obtain ⟨L1, L2, rfl, f1, f2⟩ := Fl.split h2
  cases f2 with
  | fl _ f2 => exact ⟨L1, _, h1, fun W' o' h' => ⟨_, h', Fl.join f1 (.fl o' f2)⟩⟩
theorem HP.getBk {g : Nat} {ms : List Nat} {t : ByteArray} {n : Int} (h : HP W B (its1 ++ .bk g ms t n :: its2)) : ∃ p V L1 L2, bkP g p V t ∧ OA W B (L1 ++ owBk g p V ms n :: owU V t :: L2) ∧
    ∀ W' p' V' ms' t' n', bkP g p' V' t' → OA W' B (L1 ++ owBk g p' V' ms' n' :: owU V' t' :: L2) → HP W' B (its1 ++ .bk g ms' t' n' :: its2) := by
  obtain ⟨L, h1, h2⟩ := h
  obtain ⟨L1, L2, rfl, f1, f2⟩ := Fl.split h2
  cases f2 with
  | @bk _ p V _ _ _ _ L3 hp f2 => exact ⟨p, V, L1, L3, hp, h1, fun W' p' V' ms' t' n' hp' h' => ⟨_, h', Fl.join f1 (.bk g hp' f2)⟩⟩
theorem Fl.mem : ∀ {its : List It} {L : List Ow}, Fl its L → ∀ {o : Ow}, It.fl o ∈ its → o ∈ L
  | _, _, .fl o h, o', hm => by
    rcases List.mem_cons.1 hm with e | hm
    · cases e; exact List.mem_cons_self
    · exact List.mem_cons_of_mem _ (Fl.mem h hm)
  | _, _, .bk g hl h, o', hm => by
    rcases List.mem_cons.1 hm with e | hm
    · cases e
    · exact List.mem_cons_of_mem _ (List.mem_cons_of_mem _ (Fl.mem h hm))
  | _, _, .tl v hl h, o', hm => by
    rcases List.mem_cons.1 hm with e | hm
    · cases e
    · exact List.mem_cons_of_mem _ (Fl.mem h hm)
  | _, _, .ro V hl h, o', hm => by
    rcases List.mem_cons.1 hm with e | hm
    · cases e
    · exact List.mem_cons_of_mem _ (List.mem_append_right _ (Fl.mem h hm))
theorem HP.get (h : HP W B its) (ho : It.fl o ∈ its) : o.ok W B := let ⟨L, h1, h2⟩ := h; h1.1 _ (h2.mem ho)
theorem HP.open_I (h : HP W B its) (ho : It.fl (owI v l) ∈ its) : ∃ A cap, v = .slice A l.length cap ∧ ReadsI W W.heap.size A l := own_readsI (h.get ho)
theorem HP.rd_I {cap n : Nat} {A : Option Addr} (h : HP W B its) (ho : It.fl (owI (.slice A n cap) l) ∈ its) : ReadsI W W.heap.size A l := by
  obtain ⟨A', cap', e, hr⟩ := h.open_I ho; cases e; exact hr
theorem HP.open_M {l : List Nat} (h : HP W B its) (ho : It.fl (owM v l) ∈ its) : ∃ A cap, v = .slice A l.length cap ∧ ReadsM W W.heap.size A l := own_reads (h.get ho)
theorem HP.rd_M {l : List Nat} {cap n : Nat} {A : Option Addr} (h : HP W B its) (ho : It.fl (owM (.slice A n cap) l) ∈ its) : ReadsM W W.heap.size A l := by
  obtain ⟨A', cap', e, hr⟩ := h.open_M ho; cases e; exact hr
theorem HP.open_L {l : List (Int × Int)} (h : HP W B its) (ho : It.fl (owL v l) ∈ its) : ∃ A cap, v = .slice A l.length cap ∧ ReadsL W W.heap.size A l := own_reads (h.get ho)
theorem HP.rd_L {l : List (Int × Int)} {cap n : Nat} {A : Option Addr} (h : HP W B its) (ho : It.fl (owL (.slice A n cap) l) ∈ its) : ReadsL W W.heap.size A l := by
  obtain ⟨A', cap', e, hr⟩ := h.open_L ho; cases e; exact hr
theorem Fl.memR : ∀ {its : List It} {L : List Ow}, Fl its L → ∀ {V : Value} {ls : List (List Int)}, It.ro V ls ∈ its → ∃ vs, vs.length = ls.length ∧ owV V vs ∈ L ∧ ∀ x ∈ seg vs ls, x ∈ L
  | _, _, .fl o h, V', ls', hm => by
    rcases List.mem_cons.1 hm with e | hm
    · cases e
    · obtain ⟨vs, h1, h2, h3⟩ := Fl.memR h hm
      exact ⟨vs, h1, List.mem_cons_of_mem _ h2, fun x hx => List.mem_cons_of_mem _ (h3 x hx)⟩
  | _, _, .bk g e0 h, V', ls', hm => by
    rcases List.mem_cons.1 hm with e | hm
    · cases e
    · obtain ⟨vs, h1, h2, h3⟩ := Fl.memR h hm
      exact ⟨vs, h1, List.mem_cons_of_mem _ (List.mem_cons_of_mem _ h2), fun x hx => List.mem_cons_of_mem _ (List.mem_cons_of_mem _ (h3 x hx))⟩
  | _, _, .tl v e0 h, V', ls', hm => by
    rcases List.mem_cons.1 hm with e | hm
    · cases e
    · obtain ⟨vs, h1, h2, h3⟩ := Fl.memR h hm
      exact ⟨vs, h1, List.mem_cons_of_mem _ h2, fun x hx => List.mem_cons_of_mem _ (h3 x hx)⟩
  | _, _, .ro V (vs := vs) (ls := ls) hl h, V', ls', hm => by
    rcases List.mem_cons.1 hm with e | hm
    · cases e; exact ⟨vs, hl, List.mem_cons_self, fun x hx => List.mem_cons_of_mem _ (List.mem_append_left _ hx)⟩
    · obtain ⟨vs, h1, h2, h3⟩ := Fl.memR h hm
      exact ⟨vs, h1, List.mem_cons_of_mem _ (List.mem_append_right _ h2), fun x hx => List.mem_cons_of_mem _ (List.mem_append_right _ (h3 x hx))⟩
theorem seg_at : ∀ {vs : List Value} {ls : List (List Int)}, vs.length = ls.length → ∀ {k : Nat} {l : List Int}, ls[k]? = some l → ∃ v, vs[k]? = some v ∧ owI v l ∈ seg vs ls
  | [], [], _, k, l, h => by simp at h
  | v :: vs, l0 :: ls, hl, 0, l, h => by simp at h; subst h; exact ⟨v, rfl, List.mem_cons_self⟩
  | v :: vs, l0 :: ls, hl, k+1, l, h => by
    obtain ⟨v', h1, h2⟩ := seg_at (vs := vs) (ls := ls) (by simpa using hl) (k := k) (by simpa using h)
    exact ⟨v', by simpa using h1, List.mem_cons_of_mem _ h2⟩
theorem HP.open_R (h : HP W B its) (ho : It.ro V ls ∈ its) : ∃ A cap, V = .slice A ls.length cap ∧ ReadsR W W.heap.size A ls := by
  obtain ⟨L, h1, h2⟩ := h
  obtain ⟨vs, e1, e2, e3⟩ := h2.memR ho
  obtain ⟨A, cap, e, hr⟩ := own_reads (h1.get e2)
  have e' : V = .slice A vs.length cap := e
  have hr' : Reads W W.heap.size 1 A vs.length vs := hr
  refine ⟨A, cap, by rw [e', e1], vs, by rw [← e1]; exact hr', fun k l hl => ?_⟩
  obtain ⟨v, hv, hm⟩ := seg_at e1 hl
  obtain ⟨A', cap', rfl, hr'⟩ := h1.open_I (e3 _ hm)
  refine ⟨A', cap', hv, hr', ?_⟩
  have hk : (owI (.slice A' l.length cap') l).ok W B := h1.get (e3 _ hm)
  rcases hk.2 with ⟨h1, h2⟩ | ⟨g, c, cur, e, h2, h3, h4, h5, h6, h7⟩
  · have : l.length = 0 := h2
    omega
  · have e : Value.slice A' l.length cap' = .slice (some ⟨g, 0, none⟩) l.length c := e
    injection e with e1 e2 e3
    subst e3; exact h4
theorem HP.rd_R {cap n : Nat} {A : Option Addr} (h : HP W B its) (ho : It.ro (.slice A n cap) ls ∈ its) : ReadsR W W.heap.size A ls := by
  obtain ⟨A', cap', e, hr⟩ := h.open_R ho; cases e; exact hr
end
end Go.Proofs.YtekfgkeimlidhaaGreatDoor
