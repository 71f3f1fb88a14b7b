import Derived.Test.YtekfgkeimlidhaaGreatDoorDn
import Derived.Test.YtekfgkeimlidhaaGreatDoorRA
import Derived.Test.YtekfgkeimlidhaaGreatDoorOg
import Derived.Lib.SplitLaws
import Derived.Lib.IndexBytes
import Derived.Test.YtekfgkeimlidhaaGreatDoorStr
import Derived.Test.YtekfgkeimlidhaaGreatDoorPhI
/- plain: a text cut at a byte; the document's line, its Open -/
set_option linter.all false
set_option maxRecDepth 100000
namespace Go.Proofs.YtekfgkeimlidhaaGreatDoor
open Go.RowKit Go.Shelf Pl
/-- what stands between the bytes c; cur: what was read of a piece -/
def pcsA (c : UInt8) (cur : List UInt8) : List UInt8 → List (List UInt8)
  | [] => [cur]
  | b :: l => if b = c then cur :: pcsA c [] l else pcsA c (cur ++ [b]) l
def pcs (c : UInt8) (l : List UInt8) : List (List UInt8) := pcsA c [] l
theorem idx_at (c : UInt8) : ∀ (cur l : List UInt8), ¬ c ∈ cur → Lib.indexByte (cur ++ c :: l) c = (cur.length : Int)
  | [], l, _ => by show Lib.indexByte (c :: l) c = _; unfold Lib.indexByte; simp
  | b :: cur, l, h => by
    have hb : b ≠ c := fun e => h (by rw [e]; exact List.mem_cons_self)
    have i := idx_at c cur l fun q => h (List.mem_cons_of_mem _ q)
    show Lib.indexByte (b :: (cur ++ c :: l)) c = _
    unfold Lib.indexByte
    rw [i, if_neg (by simpa using hb), if_neg (by simp), List.length_cons]; omega
theorem idx_no (c : UInt8) : ∀ (l : List UInt8), ¬ c ∈ l → Lib.indexByte l c = -1
  | [], _ => rfl
  | b :: l, h => by
    have hb : b ≠ c := fun e => h (by rw [e]; exact List.mem_cons_self)
    unfold Lib.indexByte
    rw [idx_no c l fun q => h (List.mem_cons_of_mem _ q), if_neg (by simpa using hb), if_pos (by decide)]
theorem cnt_no (c : UInt8) (l m : List UInt8) (h : ¬ c ∈ l) : Lib.count (l ++ m) [c] = Lib.count m [c] := by
  induction l with
  | nil => rfl
  | cons b l ih =>
    rw [List.cons_append, Lib.count_cons_ne b c _ (fun e => h (by rw [e]; exact List.mem_cons_self)), ih fun q => h (List.mem_cons_of_mem _ q)]
theorem split_pcs (c : UInt8) : ∀ (l cur : List UInt8), ¬ c ∈ cur → Lib.splitK [c] 0 (Lib.count (cur ++ l) [c]) (cur ++ l) = pcsA c cur l
  | [], cur, h => by
    rw [List.append_nil]
    show _ = [cur]
    have := idx_no c cur h
    cases hk : Lib.count cur [c] with
    | zero => rfl
    | succ k => unfold Lib.splitK; rw [Lib.index_one, this, if_pos (by decide)]
  | b :: l, cur, h => by
    by_cases e : b = c
    · subst e
      have h1 : pcsA b cur (b :: l) = cur :: pcsA b [] l := by rw [pcsA, if_pos rfl]
      have i := split_pcs b l [] (by simp)
      rw [List.nil_append] at i
      rw [h1, cnt_no b cur _ h, Lib.count_cons_eq, Nat.add_comm 1, ← i]
      show (if Lib.index (cur ++ b :: l) [b] == -1 then _ else _) = _
      rw [Lib.index_one, idx_at b cur l h, if_neg (by simp), Int.toNat_natCast, Nat.add_zero]
      congr 1
      · simp
      · congr 1
        rw [List.drop_append, List.drop_eq_nil_of_le (by simp)]
        simp
    · have h1 : pcsA c cur (b :: l) = pcsA c (cur ++ [b]) l := by rw [pcsA, if_neg e]
      have h2 : cur ++ b :: l = (cur ++ [b]) ++ l := by simp
      rw [h1, h2]
      refine split_pcs c l (cur ++ [b]) fun q => ?_
      rcases List.mem_append.1 q with q | q
      · exact h q
      · exact e (List.mem_singleton.1 q).symm
theorem wds_pcs (s : ByteArray) : (wdsB s).map (fun x => x.data.toList) = pcs 32 s.data.toList := by
  unfold wdsB
  rw [Lib.splitB_data]
  exact split_pcs 32 s.data.toList [] (by simp)
theorem wds_eq (s : ByteArray) : wdsB s = (pcs 32 s.data.toList).map fun x => (⟨x.toArray⟩ : ByteArray) := by
  rw [← wds_pcs, List.map_map]
  conv => lhs; rw [← List.map_id (wdsB s)]
  apply List.map_congr_left
  intro x _
  show x = (⟨x.data.toList.toArray⟩ : ByteArray)
  rw [Array.toArray_toList]
theorem pcsA_ne (c : UInt8) : ∀ (l cur : List UInt8), ∃ x r, pcsA c cur l = x :: r
  | [], cur => ⟨cur, [], rfl⟩
  | b :: l, cur => by
    unfold pcsA
    by_cases e : b = c
    · rw [if_pos e]; exact ⟨_, _, rfl⟩
    · rw [if_neg e]; exact pcsA_ne c l _
/-! ### the document's line -/
def lnRes4 (x : RbT) (w0 : ByteArray) : Option (List Int) → Option (RbT × Int)
  | none => some (x, 2)
  | some l => if l.length = 2 then (if (w0.toList == ([106] : List UInt8)) = true then mJ4 x (l.getD 0 0) (l.getD 1 0) else if (w0.toList == ([99] : List UInt8)) = true then mC4 x (l.getD 0 0) (l.getD 1 0) else some (x, 2)) else some (x, 2)
def mL4 (x : RbT) (l : ByteArray) : Option (RbT × Int) :=
  if l.size < 1000000 then
    (if Lib.lastIndexByte l 32 < 0 then some (x, 2)
     else if (numM (tailB l)).2 = true then
      (if (numM (tailB l)).1 = ((bsm (bodyB l).data.toList 0 % 9973 : Nat) : Int) then lnRes4 x ((wdsB (bodyB l)).getD 0 ByteArray.empty) (lnNums (wdsB (bodyB l)).tail []) else some (x, 6))
     else some (x, 2))
  else none
theorem line_rel {x : RbT} {b : BkT} (h : RRel x b) (l : ByteArray) (hl : l.size < 1000000) : ∃ e x' b', mLine b l = some (e, b') ∧ mL4 x l = some (x', e) ∧ RRel x' b' ∧ (e = 0 → b'.2.2 = b.2.2 + 1) ∧ (e ≠ 0 → b' = b ∧ x' = x) := by
  have bad : ∀ e : Int, e ≠ 0 → ∃ e' x' b', some (e, b) = some (e', b') ∧ some (x, e) = some (x', e') ∧ RRel x' b' ∧ (e' = 0 → b'.2.2 = b.2.2 + 1) ∧ (e' ≠ 0 → b' = b ∧ x' = x) := fun e he => ⟨e, x, b, rfl, rfl, h, fun q => absurd q he, fun _ => ⟨rfl, rfl⟩⟩
  unfold mLine mL4
  rw [if_pos ⟨h.inv.ok, hl⟩, if_pos hl]
  by_cases c1 : Lib.lastIndexByte l 32 < 0
  · rw [if_pos c1, if_pos c1]; exact bad 2 (by decide)
  rw [if_neg c1, if_neg c1]
  by_cases c2 : (numM (tailB l)).2 = true
  case neg => rw [if_neg c2, if_neg c2]; exact bad 2 (by decide)
  rw [if_pos c2, if_pos c2]
  by_cases c3 : (numM (tailB l)).1 = ((bsm (bodyB l).data.toList 0 % 9973 : Nat) : Int)
  case neg => rw [if_neg c3, if_neg c3]; exact bad 6 (by decide)
  rw [if_pos c3, if_pos c3]
  generalize lnNums (wdsB (bodyB l)).tail [] = ns
  generalize (wdsB (bodyB l)).getD 0 ByteArray.empty = w0
  cases ns with
  | none => exact bad 2 (by decide)
  | some q =>
    unfold lnRes lnRes4
    dsimp only
    by_cases c4 : q.length = 2
    case neg => rw [if_neg c4, if_neg c4]; exact bad 2 (by decide)
    rw [if_pos c4, if_pos c4]
    by_cases c5 : (w0.toList == ([106] : List UInt8)) = true
    · rw [if_pos c5, if_pos c5]; exact join_rel h _ _
    rw [if_neg c5, if_neg c5]
    by_cases c6 : (w0.toList == ([99] : List UInt8)) = true
    · rw [if_pos c6, if_pos c6]; exact cut_rel h _ _
    rw [if_neg c6, if_neg c6]; exact bad 2 (by decide)
/-! ### the document's Open -/
abbrev rb0 : RbT := ([], (⟨#[]⟩ : ByteArray), 0)
/-- pieces read, but for the last one -/
def opD : List (List UInt8) → RbT → Nat → Option (RbT × Int × Int)
  | [], x, n => some (x, (n : Int), 0)
  | [_], x, n => some (x, (n : Int), 0)
  | p :: q :: r, x, n => (mL4 x ⟨p.toArray⟩).bind fun y => if y.2 = 0 then opD (q :: r) y.1 (n + 1) else some (rb0, ((n + 1 : Nat) : Int), y.2)
def mO4 (t : ByteArray) : Option (RbT × Int × Int) := if 2000 < t.size then some (rb0, 0, 4) else opD (pcs 10 t.data.toList) rb0 0
theorem pcs_row : ∀ (p t cur : List UInt8), ¬ (10 : UInt8) ∈ p → pcsA 10 cur (p ++ 10 :: t) = (cur ++ p) :: pcs 10 t
  | [], t, cur, _ => by show pcsA 10 cur (10 :: t) = _; rw [pcsA, if_pos rfl, List.append_nil]; rfl
  | b :: p, t, cur, h => by
    have hb : b ≠ 10 := fun e => h (by rw [e]; exact List.mem_cons_self)
    show pcsA 10 cur (b :: (p ++ 10 :: t)) = _
    rw [pcsA, if_neg hb, pcs_row p t (cur ++ [b]) fun q => h (List.mem_cons_of_mem _ q)]
    simp
theorem pcs_torn : ∀ (p cur : List UInt8), ¬ (10 : UInt8) ∈ p → pcsA 10 cur p = [cur ++ p]
  | [], cur, _ => by show [cur] = _; simp
  | b :: p, cur, h => by
    have hb : b ≠ 10 := fun e => h (by rw [e]; exact List.mem_cons_self)
    rw [pcsA, if_neg hb, pcs_torn p (cur ++ [b]) fun q => h (List.mem_cons_of_mem _ q)]
    simp
theorem open_rel : ∀ (F : Nat) (x : RbT) (b : BkT) (t : ByteArray) (n : Nat), RRel x b → b.2.2 = (n : Int) → t.size < F → t.size < 1000000 →
    ∃ e m b' x', opL F b t = some (e, m, b') ∧ opD (pcs 10 t.data.toList) x n = some (x', m, e) ∧ (e = 0 → RRel x' b')
  | 0, x, b, t, n, _, _, h, _ => by omega
  | F + 1, x, b, t, n, hx, hn, hF, hs => by
    rcases row_or t.data.toList with h | ⟨p, r, h1, h2⟩
    · have hp : pcs 10 t.data.toList = [t.data.toList] := by unfold pcs; rw [pcs_torn _ _ h]; rfl
      refine ⟨0, (n : Int), b, x, ?_, by rw [hp]; rfl, fun _ => hx⟩
      unfold opL
      by_cases c : t.size = 0
      · rw [if_pos c, hn]
      · rw [if_neg c]
        have g1 : (lnB t).1.data.toList = t.data.toList := by
          show (cutLn t.data.toList).1.toArray.toList = _
          rw [cut_torn _ h]
        rw [g1, suff_torn h, if_neg (by decide), hn]
    · have hp : pcs 10 t.data.toList = p :: pcs 10 r := by unfold pcs; rw [h1, pcs_row p r [] h2]; rfl
      obtain ⟨q1, q2, hq⟩ := pcsA_ne 10 r []
      have hq : pcs 10 r = q1 :: q2 := hq
      have hlen := congrArg List.length h1
      rw [bytes_len, List.length_append, List.length_cons] at hlen
      have hsz : t.size ≠ 0 := by omega
      have hc : cutLn t.data.toList = (p ++ [10], r) := by rw [h1]; exact cut_row _ _ h2
      have g1 : (lnB t).1.data.toList = p ++ [10] := by show (cutLn t.data.toList).1.toArray.toList = _; rw [hc]
      have g2 : (lnB t).2.data.toList = r := by show (cutLn t.data.toList).2.toArray.toList = _; rw [hc]
      have g3 : (lnB t).2.size = r.length := by rw [← bytes_len, g2]
      obtain ⟨e, x', b', k1, k2, k3, k4, k5⟩ := line_rel hx ⟨p.toArray⟩ (by show p.length < 1000000; omega)
      unfold opL
      rw [if_neg hsz, g1, suff_row, if_pos rfl, trim_row, k1, Option.bind_some, hp, hq]
      have hD : opD (p :: q1 :: q2) x n = if e = 0 then opD (q1 :: q2) x' (n + 1) else some (rb0, ((n + 1 : Nat) : Int), e) := by
        rw [opD, k2, Option.bind_some]
      rw [hD]
      by_cases c : e = 0
      · rw [if_pos c, if_pos c, ← hq, ← g2]
        exact open_rel F x' b' _ (n + 1) k3 (by rw [k4 c, hn]; omega) (by omega) (by omega)
      · rw [if_neg c, if_neg c]
        refine ⟨e, ((n + 1 : Nat) : Int), b', rb0, ?_, rfl, fun q => absurd q c⟩
        rw [(k5 c).1, hn]; congr 2
theorem open4_rel (t : ByteArray) : ∃ e m b' x', mOpen t = some (e, m, b') ∧ mO4 t = some (x', m, e) ∧ (e = 0 → RRel x' b') := by
  unfold mOpen mO4
  by_cases c : 2000 < t.size
  · rw [if_pos c, if_pos c]; exact ⟨4, 0, newB, rb0, rfl, rfl, fun q => by cases q⟩
  · rw [if_neg c, if_neg c]
    exact open_rel (t.size + 1) rb0 newB t 0 rrel_new rfl (by omega) (by omega)
end Go.Proofs.YtekfgkeimlidhaaGreatDoor
/- the document's Number, Cut -/
set_option linter.all false
set_option maxRecDepth 100000
namespace Go.Proofs.YtekfgkeimlidhaaGreatDoor
open Go.RowKit Go.Shelf Pl
theorem by_at {s : ByteArray} {k : Nat} (hk : k < s.size) : s[k]? = some s[k] ∧ s.data.toList.take (k + 1) = s.data.toList.take k ++ [s[k]] := by
  refine ⟨getElem?_pos s k hk, ?_⟩
  have hkl : k < s.data.toList.length := by rw [bytes_len]; exact hk
  rw [List.take_succ_eq_append_getElem hkl]
  simp [ByteArray.getElem_eq_getElem_data]
theorem wrap_of (x : Int) : ∃ k : Int, wrap64 x = x + 18446744073709551616 * k := ⟨-((x + 9223372036854775808) / 18446744073709551616), by unfold wrap64; omega⟩
theorem wrap_add (x k : Int) : wrap64 (x + 18446744073709551616 * k) = wrap64 x := by unfold wrap64; omega
theorem wrap_dig (v c : Nat) (h : 48 ≤ c) : wrap64 (wrap64 (wrap64 (wrap64 (v : Int) * 10) + (c : Int)) - 48) = wrap64 ((v * 10 + (c - 48) : Nat) : Int) := by
  obtain ⟨k1, h1⟩ := wrap_of (v : Int)
  rw [h1]
  obtain ⟨k2, h2⟩ := wrap_of (((v : Int) + 18446744073709551616 * k1) * 10)
  rw [h2]
  obtain ⟨k3, h3⟩ := wrap_of (((v : Int) + 18446744073709551616 * k1) * 10 + 18446744073709551616 * k2 + (c : Int))
  have e : ((v : Int) + 18446744073709551616 * k1) * 10 + 18446744073709551616 * k2 + (c : Int) + 18446744073709551616 * k3 - 48 = ((v * 10 + (c - 48) : Nat) : Int) + 18446744073709551616 * (10 * k1 + k2 + k3) := by omega
  rw [h3, e, wrap_add]
set_option maxHeartbeats 4000000 in
theorem num4_ok (s : ByteArray) (w : World) : Calls Tryz.prog 26 #[.string s] w fun e w' =>
    w = w' ∧ ∃ n, e = .returned (.tuple #[.int .i64 n, .bool (numM s).2]) ∧ ((numM s).2 = true → n = (numM s).1) := by
  by_cases hz : s.size = 0 ∨ 19 < s.size
  · have HF := Lib.hid (num4_len hz)
    have hfin : ∀ e w', w = w' ∧ e = Ending.returned (.tuple #[.int .i64 0, .bool false]) → (w = w' ∧ ∃ n, e = Ending.returned (.tuple #[.int .i64 n, .bool (numM s).2]) ∧ ((numM s).2 = true → n = (numM s).1)) := fun e w' ⟨h1, h2⟩ => ⟨h1, 0, by rw [HF.out]; exact h2, fun q => by rw [HF.out] at q; cases q⟩
    refine Calls.mono (R := fun e w' => w = w' ∧ e = Ending.returned (.tuple #[.int .i64 0, .bool false])) ?_ hfin
    clear hfin HF
    by_cases h0 : s.size = 0
    · have hb : (((s.size : Nat) : Int) == 0) = true := by rw [h0]; rfl
      go_enter Tryz.func26, Tryz.ntmps26
      go_wp2_with fail
      go_ret2
      exact ⟨rfl, rfl⟩
    · have h1 : 19 < s.size := hz.resolve_left h0
      have hb : (((s.size : Nat) : Int) == 0) = false := by rw [beq_eq_false_iff_ne]; omega
      have hc := decide_eq_true (show (19 : Int) < (s.size : Int) by omega)
      go_enter Tryz.func26, Tryz.ntmps26
      go_wp2_with fail
      go_ret2
      exact ⟨rfl, rfl⟩
  have h0 : s.size ≠ 0 := fun q => hz (.inl q)
  have h19 : s.size ≤ 19 := by omega
  have hb : (((s.size : Nat) : Int) == 0) = false := by rw [beq_eq_false_iff_ne]; omega
  have hc := decide_eq_false (show ¬ (19 : Int) < (s.size : Int) by omega)
  have HDG := Lib.hid (fun (n : Nat) (h : n ≤ 9223372036854775807) => digits_ok w 19 n (by omega) h)
  go_enter Tryz.func26, Tryz.ntmps26
  go_wp2_with fail
  go_loopg [4, 5] 21 (fun gg u4 u5 wr => ∃ (k : Nat) (a : Int), u5 = .int .i64 (k : Int) ∧ u4 = .int .i64 a ∧ Hid (k ≤ s.size ∧ gg = 21 - k) ∧ Hid (a = wrap64 (valN (s.data.toList.take k) : Int) ∧ ∀ c ∈ s.data.toList.take k, 48 ≤ c.toNat ∧ c.toNat ≤ 57) ∧ w = wr)
  case atStart => exact ⟨0, 0, rfl, rfl, Lib.hid ⟨by omega, by omega⟩, Lib.hid ⟨by rw [List.take_zero]; exact (by unfold wrap64; omega : (0 : Int) = wrap64 0), by simp⟩, rfl⟩
  case round =>
    obtain ⟨k, a, rfl, rfl, hk, ha, rfl⟩ := hrel
    obtain ⟨hks, hkg⟩ := hk.out
    by_cases hlt : (k : Int) < (s.size : Int)
    · have hkt : k < s.size := by omega
      have hcd := decide_eq_true hlt
      obtain ⟨fx, htk⟩ := by_at hkt
      have HTK := Lib.hid htk; clear htk
      generalize hck : s[k] = ck at *
      have fxt : ∃ h : k < s.size, s[k] = ck := ⟨hkt, hck⟩
      have l256 := ck.toNat_lt
      by_cases q1 : ck.toNat < 48
      · have q1d := decide_eq_true (show (ck.toNat : Int) < 48 by omega)
        have HF := Lib.hid (num4_bad fx (.inl q1))
        go_wp2_with fail
        go_ret2
        exact ⟨rfl, 0, by rw [HF.out]; rfl, fun q => by rw [HF.out] at q; cases q⟩
      have q1d := decide_eq_false (show ¬ (ck.toNat : Int) < 48 by omega)
      by_cases q2 : 57 < ck.toNat
      · have q2d := decide_eq_true (show (57 : Int) < (ck.toNat : Int) by omega)
        have HF := Lib.hid (num4_bad fx (.inr q2))
        go_wp2_with fail
        go_ret2
        exact ⟨rfl, 0, by rw [HF.out]; rfl, fun q => by rw [HF.out] at q; cases q⟩
      have q2d := decide_eq_false (show ¬ (57 : Int) < (ck.toNat : Int) by omega)
      have HA := ha
      clear ha
      go_wp2_with fail
      go_roundg (21 - (k + 1))
      case measure => omega
      case rel =>
        obtain ⟨e1, e2⟩ := HA.out
        refine ⟨k + 1, _, by go_num, rfl, Lib.hid ⟨by omega, by omega⟩, Lib.hid ⟨?_, ?_⟩, rfl⟩
        · rw [HTK.out, valN_snoc]
          generalize valN (s.data.toList.take k) = v at *
          rw [e1]; exact wrap_dig v ck.toNat (by omega)
        · intro c hc
          rw [HTK.out] at hc
          rcases List.mem_append.1 hc with hc | hc
          · exact e2 c hc
          · rw [List.mem_singleton.1 hc]; omega
    · have hke : k = s.size := by omega
      have hcd := decide_eq_false hlt
      obtain ⟨e1, e2⟩ := ha.out
      rw [hke, List.take_of_length_le (by rw [bytes_len]; exact Nat.le_refl _)] at e1
      have E1 := Lib.hid e1
      clear e1 e2 ha
      by_cases hp : 0 ≤ a
      · obtain ⟨m, rfl⟩ := Int.eq_ofNat_of_zero_le hp
        have hm : m ≤ 9223372036854775807 := by
          have := E1.out
          unfold wrap64 at this; omega
        have hcp := decide_eq_true hp
        have HC := Lib.hid (HDG.out m hm)
        have HQ := Lib.hid (num4_eq E1.out hp)
        clear hm hk hks hkg
        go_wp2_with fail
        refine HC.out.mono ?_; rintro e w' ⟨rfl, rfl⟩
        go_wp2_with fail
        go_ret2
        exact ⟨rfl, (m : Int), by rw [← HQ.out.1]; rfl, HQ.out.2⟩
      · have hcp := decide_eq_false hp
        have HF := Lib.hid (num4_neg (s := s) (by rw [← E1.out]; omega))
        clear hk hks hkg
        go_wp2_with fail
        go_ret2
        exact ⟨rfl, a, by rw [HF.out]; rfl, fun q => absurd q (by rw [HF.out]; decide)⟩
/-! ### Cut -/
theorem cut4_fin {P : List ByteArray} {L : List (List UInt8)} (h : P.map (fun x => x.data.toList) = L) : P = L.map fun x => (⟨x.toArray⟩ : ByteArray) := by
  rw [← h, List.map_map]
  conv => lhs; rw [← List.map_id P]
  apply List.map_congr_left
  intro x _
  show x = (⟨x.data.toList.toArray⟩ : ByteArray)
  rw [Array.toArray_toList]
set_option maxHeartbeats 4000000 in
theorem cutS4_ok {s : ByteArray} {c : UInt8} (w : World) (hs : s.size < 1000000) : Calls Tryz.prog 25 #[.string s, .int .u8 (c.toNat : Int)] w fun e w' =>
    ∃ V, e = .returned V ∧ Ow.ok w' w.heap.size (owS V ((pcs c s.data.toList).map fun x => (⟨x.toArray⟩ : ByteArray))) ∧ Below w.heap.size w w' := by
  have HS := Lib.hid hs
  obtain ⟨bs, hL⟩ : ∃ bs, bs = s.data.toList := ⟨_, rfl⟩
  have hLn : bs.length = s.size := by rw [hL, bytes_len]
  rw [← hL]
  go_enter Tryz.func25, Tryz.ntmps25
  go_wp2_with fail
  go_loopg [5, 6, 7] (s.size + 2) (fun gg uv uf ui wr => ∃ (V : Value) (P : List ByteArray) (f k : Nat), V = uv ∧ uf = .int .i64 (f : Int) ∧ ui = .int .i64 (k : Int) ∧ Hid (k ≤ s.size + 1 ∧ f ≤ k ∧ gg = s.size + 2 - k ∧ P.length ≤ k) ∧
    Hid ((k ≤ s.size → P.map (fun x => x.data.toList) ++ pcsA c ((bs.drop f).take (k - f)) (bs.drop k) = pcs c bs) ∧ (k = s.size + 1 → P.map (fun x => x.data.toList) = pcs c bs)) ∧
    Hid (Below w.heap.size w wr) ∧ Hid (HP wr w.heap.size [.fl (owS V P)]))
  case atStart => exact ⟨_, [], 0, 0, rfl, rfl, rfl, Lib.hid ⟨by omega, by omega, by omega, by simp⟩, Lib.hid ⟨fun _ => by simp [pcs], fun q => by omega⟩, Lib.hid (Below.refl _ _), Lib.hid (HP.nil.pushNil 9 1)⟩
  case round =>
    obtain ⟨V, P, f, k, rfl, rfl, rfl, hk, hP, HD, HOA⟩ := hrel
    rename World => W3
    obtain ⟨hks, hfk, hkg, hpl⟩ := hk.out
    by_cases hle : k ≤ s.size
    · have hcd := decide_eq_true (show (k : Int) ≤ (s.size : Int) by omega)
      have hsf : (f : Int) ≤ (k : Int) := by omega
      have hx : (s.extract f k).data.toList = (bs.drop f).take (k - f) := by rw [Lib.extract_data, hL]
      obtain ⟨V', W5, a1, a2, a3, _⟩ := run_appS W3 59 59 Tryz.underlying59 (e' := 9) (L1 := []) (L2 := []) (y := s.extract f k) HOA.out (by omega) HD.out.size
      have A1 := Lib.hid a1; have A2 := Lib.hid a2; have A3 := Lib.hid a3
      clear a1 a2 a3
      have HX := Lib.hid hx; clear hx
      by_cases he : k = s.size
      · have hq : ((k : Int) == (s.size : Int)) = true := by rw [he]; simp
        have hsz : (k : Int) ≤ (s.size : Int) := by omega
        have hp := hP.out.1 hle
        rw [show bs.drop k = [] by rw [List.drop_eq_nil_iff]; omega] at hp
        have hp : P.map (fun x => x.data.toList) ++ [(bs.drop f).take (k - f)] = pcs c bs := hp
        have HPP := Lib.hid hp; have HE := Lib.hid he; clear hp hP he hL
        go_wp2_with (at_builtin; refine wp_appRun A1.out rfl rfl rfl rfl ?_)
        go_roundg (s.size + 2 - (k + 1))
        case measure => omega
        case rel => exact ⟨_, P ++ [s.extract f k], k + 1, k + 1, rfl, by go_num, by go_num, Lib.hid ⟨by omega, by omega, by omega, by rw [List.length_append, List.length_singleton]; omega⟩, Lib.hid ⟨fun q => by have := HE.out; omega, fun _ => by rw [List.map_append, List.map_singleton, HX.out]; exact HPP.out⟩, Lib.hid (HD.out.trans A3.out), A2⟩
      · have hkt : k < s.size := by omega
        have hq : ((k : Int) == (s.size : Int)) = false := by rw [beq_eq_false_iff_ne]; omega
        obtain ⟨fx, _⟩ := by_at hkt
        have hkl : k < bs.length := by omega
        have hbk : bs[k]'hkl = s[k] := by simp [hL, ByteArray.getElem_eq_getElem_data]
        have hdr : bs.drop k = s[k] :: bs.drop (k + 1) := by rw [List.drop_eq_getElem_cons hkl, hbk]
        have hp := hP.out.1 hle
        rw [hdr] at hp
        generalize hck : s[k] = ck at *
        have fxt : ∃ h : k < s.size, s[k] = ck := ⟨hkt, hck⟩
        by_cases q : ck = c
        · have hqb : ((ck.toNat : Int) == (c.toNat : Int)) = true := by rw [q]; simp
          rw [pcsA, if_pos q] at hp
          have hsz : (k : Int) ≤ (s.size : Int) := by omega
          have HPP := Lib.hid hp; clear hp hP q hL hbk hdr
          go_wp2_with (at_builtin; refine wp_appRun A1.out rfl rfl rfl rfl ?_)
          go_roundg (s.size + 2 - (k + 1))
          case measure => omega
          case rel => exact ⟨_, P ++ [s.extract f k], k + 1, k + 1, rfl, by go_num, by go_num, Lib.hid ⟨by omega, by omega, by omega, by rw [List.length_append, List.length_singleton]; omega⟩, Lib.hid ⟨fun _ => by
            rw [List.map_append, List.map_singleton, HX.out, Nat.sub_self, List.take_zero, List.append_assoc]; exact HPP.out, fun q => by omega⟩, Lib.hid (HD.out.trans A3.out), A2⟩
        · have hqb : ((ck.toNat : Int) == (c.toNat : Int)) = false := by
            rw [beq_eq_false_iff_ne]; intro e
            exact q (UInt8.toNat_inj.1 (by omega))
          rw [pcsA, if_neg q] at hp
          have hcur : (bs.drop f).take (k + 1 - f) = (bs.drop f).take (k - f) ++ [ck] := by
            rw [show k + 1 - f = (k - f) + 1 by omega, List.take_succ_eq_append_getElem (by rw [List.length_drop]; omega)]
            congr 2
            rw [List.getElem_drop]
            have e2 : f + (k - f) = k := by omega
            simp only [e2]; exact hbk
          rw [← hcur] at hp
          have HPP := Lib.hid hp; clear hp hP hcur
          go_wp2_with fail
          go_roundg (s.size + 2 - (k + 1))
          case measure => omega
          case rel => exact ⟨_, P, f, k + 1, rfl, rfl, by go_num, Lib.hid ⟨by omega, by omega, by omega, by omega⟩, Lib.hid ⟨fun _ => HPP.out, fun q => by omega⟩, HD, HOA⟩
    · have hke : k = s.size + 1 := by omega
      have hcd := decide_eq_false (show ¬ (k : Int) ≤ (s.size : Int) by omega)
      have hfin := cut4_fin (hP.out.2 hke)
      have HF := Lib.hid hfin
      clear hfin hP hk hks hfk hkg hpl
      go_wp2_with fail
      go_ret
      exact ⟨_, rfl, by rw [← HF.out]; exact HOA.out.get (List.Mem.head _), HD.out⟩
end Go.Proofs.YtekfgkeimlidhaaGreatDoor
/- the document's Line -/
set_option linter.all false
set_option maxRecDepth 100000
namespace Go.Proofs.YtekfgkeimlidhaaGreatDoor
open Go.RowKit Go.Shelf Pl
theorem HP.strCell2 {W : World} {B g o n cap i : Nat} {its : List It} {l : List ByteArray} {x : ByteArray} (hp : HP W B its) (ho : It.fl (owS (.slice (some ⟨g, o, none⟩) n cap) l) ∈ its) (hx : l[i]? = some x) : W.cell? ⟨g, o + i, none⟩ = some (.string x) := by
  have hr := HP.rd_S hp ho
  have hlt := (List.getElem?_eq_some_iff.1 hx).1
  obtain ⟨g', o', e, hb, hc⟩ := hr.2 (by omega)
  cases e
  exact hc i (.string x) (by simp [strV, hx])
theorem HP.strAt {W : World} {B : Nat} {its : List It} {V : Value} {y : ByteArray} {l : List ByteArray} (hp : HP W B its) (ho : It.fl (owS V (y :: l)) ∈ its) : ∃ g o cap, V = .slice (some ⟨g, o, none⟩) (l.length + 1) cap := by
  obtain ⟨A, cap, hV, hr⟩ := HP.open_S hp ho
  obtain ⟨g, o, e, _, _⟩ := hr.2 (by rw [List.length_cons]; omega)
  exact ⟨g, o, cap, by rw [hV, e, List.length_cons]⟩
abbrev zeroRB (g : Nat) : It := .fl (owRB g (.slice none 0 0) ⟨#[]⟩ 0)
theorem rb_two (w : World) (V : Value) (t : ByteArray) (n : Int) :
    HP ((w.alloc (.cells #[V, .string t, .int .i64 n] 44)).alloc (.cells #[.slice none 0 0, .string { data := #[] }, .int .i64 0] 44)) w.heap.size [zeroRB (w.heap.size + 1), .fl (owRB w.heap.size V t n)] := by
  have h1 := HP.call (HP.nil (W := w) (B := w.heap.size)) ((Below.refl _ _).alloc (Nat.le_refl _) _) (Nat.le_refl _) (owRB_ok w V t n)
  have h2 := HP.call h1 ((Below.refl _ _).alloc (Nat.le_refl _) (.cells #[.slice none 0 0, .string { data := #[] }, .int .i64 0] 44)) (by simp) (owRB_ok _ (.slice none 0 0) ⟨#[]⟩ 0)
  have e : (w.alloc (.cells #[V, .string t, .int .i64 n] 44)).heap.size = w.heap.size + 1 := by simp
  rw [e] at h2
  exact h2
/-- what a call gave, put beside what is owned -/
theorem rbo_split {W W' : World} {B : Nat} {its : List It} {A : Option Addr} {n cap : Nat} {l l' : List (Int × Int)} {V' : Value} (h : HP W B its) (hb : Below W.heap.size W W') (hB : B ≤ W.heap.size) (hr : RBo W' W.heap.size (.slice A n cap) l V' l') :
    ∃ A' n' cap' pre, V' = .slice A' n' cap' ∧ HP W' B (pre ++ its) ∧ ∀ W'' its', HP W'' B (pre ++ its') → RBo W'' B (.slice A n cap) l V' l' := by
  rcases hr with ⟨rfl, rfl⟩ | ho
  · exact ⟨A, n, cap, [], rfl, h.below hb, fun _ _ _ => .inl ⟨rfl, rfl⟩⟩
  · have h2 := h.call hb hB ho
    obtain ⟨A', cap', hv, _⟩ := HP.open_L h2 (List.Mem.head _)
    exact ⟨A', l'.length, cap', [.fl (owL V' l')], hv, h2, fun _ _ q => .inr (q.get (List.Mem.head _))⟩
set_option maxHeartbeats 8000000 in
theorem line4_ok {x : RbT} {A : Option Addr} {cap : Nat} {l : ByteArray} {r : RbT × Int} (w : World) (hr : ReadsL w w.heap.size A x.1) (hm : mL4 x l = some r) :
    Calls Tryz.prog 53 #[.agg #[.slice A x.1.length cap, .string x.2.1, .int .i64 x.2.2], .string l] w (PostRB w (.slice A x.1.length cap) x r) := by
  unfold mL4 at hm
  split at hm
  case isFalse => cases hm
  rename_i hls
  unfold PostRB
  have HR := Lib.hid hr; have HM := Lib.hid hm; have HLS := Lib.hid hls
  clear hr hm
  have HOA := Lib.hid (rb_two w (.slice A x.1.length cap) x.2.1 x.2.2)
  have HD := Lib.hid (show Below w.heap.size w ((w.alloc (.cells #[.slice A x.1.length cap, .string x.2.1, .int .i64 x.2.2] 44)).alloc (.cells #[.slice none 0 0, .string { data := #[] }, .int .i64 0] 44)) from ((Below.refl _ _).alloc (Nat.le_refl _) _).alloc (by simp) _)
  obtain ⟨nx, hnx⟩ : ∃ nx, nx = x.1.length := ⟨_, rfl⟩
  rw [← hnx] at HOA HD ⊢
  have HNX := Lib.hid hnx; clear hnx
  go_enter Tryz.func53, Tryz.ntmps53
  go_wp2_with fail
  generalize World.alloc (World.alloc w _) _ = W2 at *
  go_loopg [6] (l.size + 1) (fun gg u6 wr => ∃ k : Nat, u6 = .int .i64 ((k : Int) - 1) ∧ Hid (k ≤ l.size ∧ gg = k + 1) ∧ Hid (∀ (j : Nat) (c : UInt8), k ≤ j → l[j]? = some c → c ≠ 32) ∧ wr = W2)
  case atStart => exact ⟨l.size, by first | rfl | go_num, Lib.hid ⟨by omega, by omega⟩, Lib.hid fun j c hj hc => absurd (getElem?_eq_some_iff.1 hc).1 (by omega), rfl⟩
  case round =>
    obtain ⟨k, rfl, hk, HN, rfl⟩ := hrel
    obtain ⟨hks, hkg⟩ := hk.out
    rcases Nat.eq_zero_or_pos k with rfl | hk0
    · have hl : Lib.lastIndexByte l 32 = -1 := lxi_no fun j c hc => HN.out j c (Nat.zero_le _) hc
      replace HM := HM.out
      rw [hl, if_pos (by decide)] at HM
      obtain rfl := Option.some.inj HM
      clear HM hl HN hk hks hkg
      obtain ⟨⟨q0, q1, q2⟩, hset, hbs⟩ := HP.setRB (its1 := []) HOA.out (.slice A nx cap) x.2.1 x.2.2
      obtain ⟨k0, k1, k2, _⟩ := HP.rbGet HOA.out (List.Mem.tail _ (List.Mem.head _))
      obtain ⟨r0, r1, r2, _⟩ := HP.rbGet HOA.out (List.Mem.head _)
      have HSET := Lib.hid hset; have HBS := Lib.hid hbs; clear hset hbs
      go_wp2_with fail
      refine bodyPost_ret (results_cellrow_tmp (p := 4) (u := 5) (ty := 44) rfl _ _ (w.heap.size + 1) _ _ _ _ rfl (HP.rbGet HSET.out (List.Mem.head _)).2.2.2 Tryz.underlying44 rfl (by kernel_rfl)) rfl ⟨_, rfl, .inl ⟨rfl, rfl⟩, HD.out.trans HBS.out⟩
    · obtain ⟨m, rfl⟩ : ∃ m, k = m + 1 := ⟨k - 1, by omega⟩
      have hm1 : ((m + 1 : Nat) : Int) - 1 = (m : Int) := by omega
      rw [hm1]
      have hmt : m < l.size := by omega
      obtain ⟨fx, _⟩ := by_at hmt
      generalize hck : l[m] = ck at *
      have fxt : ∃ h : m < l.size, l[m] = ck := ⟨hmt, hck⟩
      have hmge : (0 : Int) ≤ (m : Int) := by omega
      by_cases q : ck = 32
      case neg =>
        have hqb : ((ck.toNat : Int) != 32) = true := by
          rw [bne_iff_ne]; intro e
          exact q (UInt8.toNat_inj.1 (by show ck.toNat = 32; omega))
        have HFX := Lib.hid fx; have HQ := Lib.hid q; clear hm1
        go_wp2_with fail
        go_roundg (m + 1)
        case measure => omega
        case rel => exact ⟨m, by go_num, Lib.hid ⟨by omega, by omega⟩, Lib.hid fun j c hj hc => by
          rcases Nat.lt_or_ge m j with h | h
          · exact HN.out j c h hc
          · have : j = m := by omega
            subst this
            rw [HFX.out] at hc
            rw [← Option.some.inj hc]; exact HQ.out, rfl⟩
      have hqb : ((ck.toNat : Int) != 32) = false := by rw [q]; rfl
      have hl : Lib.lastIndexByte l 32 = (m : Int) := lxi_at (by rw [← q]; exact fx) fun j c hj hc => HN.out j c hj hc
      have hbody : bodyB l = l.extract 0 m := by unfold bodyB; rw [hl]; rfl
      have htail : tailB l = l.extract (m + 1) l.size := by unfold tailB; rw [hl]; rfl
      have hmm := HM.out
      rw [hl, if_neg (by omega), hbody, htail] at hmm
      replace HM := Lib.hid hmm
      clear hmm hl hbody htail HN hk hks hkg hm1 q
      have hkw : wrap64 ((m : Int) + 1) = ((m + 1 : Nat) : Int) := by unfold wrap64; omega
      have hsl : 0 ≤ wrap64 ((m : Int) + 1) ∧ wrap64 ((m : Int) + 1) ≤ (l.size : Int) := by rw [hkw]; omega
      have hxt : l.extract (wrap64 ((m : Int) + 1)).toNat l.size = l.extract (m + 1) l.size := by rw [hkw, Int.toNat_natCast]
      have hnegd := decide_eq_false (show ¬ (m : Int) < 0 by omega)
      go_wp2_with fail
      refine (num4_ok (l.extract (m + 1) l.size) _).mono ?_; rintro e W3 ⟨rfl, n1, rfl, hn1⟩
      clear hkw hsl hxt
      generalize hq : numM (l.extract (m + 1) l.size) = q at *
      obtain ⟨v1, f1⟩ := q
      dsimp only at hn1
      have hmm := HM.out
      dsimp only at hmm
      cases f1
      · rw [if_neg (by decide)] at hmm
        obtain rfl := Option.some.inj hmm
        clear hmm HM hn1
        obtain ⟨⟨q0, q1, q2⟩, hset, hbs⟩ := HP.setRB (its1 := []) HOA.out (.slice A nx cap) x.2.1 x.2.2
        obtain ⟨k0, k1, k2, _⟩ := HP.rbGet HOA.out (List.Mem.tail _ (List.Mem.head _))
        obtain ⟨r0, r1, r2, _⟩ := HP.rbGet HOA.out (List.Mem.head _)
        have HSET := Lib.hid hset; have HBS := Lib.hid hbs; clear hset hbs
        go_wp2_with fail
        refine bodyPost_ret (results_cellrow_tmp (p := 4) (u := 5) (ty := 44) rfl _ _ (w.heap.size + 1) _ _ _ _ rfl (HP.rbGet HSET.out (List.Mem.head _)).2.2.2 Tryz.underlying44 rfl (by kernel_rfl)) rfl ⟨_, rfl, .inl ⟨rfl, rfl⟩, HD.out.trans HBS.out⟩
      obtain rfl := hn1 rfl
      rw [if_pos rfl] at hmm
      have HC2 := Lib.hid (fun W => sum4_ok (s := l.extract 0 m) W (by unfold mSum; rw [if_pos (by rw [ByteArray.size_extract]; omega)]))
      have hsl : (m : Int) ≤ (l.size : Int) := by omega
      have HMM := Lib.hid hmm; clear hmm HM
      go_wp2_with fail
      refine (HC2.out _).mono ?_; rintro e W3 ⟨rfl, rfl⟩
      clear HC2
      generalize hsm : ((bsm (l.extract 0 m).data.toList 0 % 9973 : Nat) : Int) = sm at *
      have hmm := HMM.out
      by_cases hns : n1 = sm
      case neg =>
        rw [if_neg hns] at hmm
        obtain rfl := Option.some.inj hmm
        have hnb : (n1 != sm) = true := by rw [bne_iff_ne]; exact hns
        clear hmm HMM hns hsm
        obtain ⟨⟨q0, q1, q2⟩, hset, hbs⟩ := HP.setRB (its1 := []) HOA.out (.slice A nx cap) x.2.1 x.2.2
        obtain ⟨k0, k1, k2, _⟩ := HP.rbGet HOA.out (List.Mem.tail _ (List.Mem.head _))
        obtain ⟨r0, r1, r2, _⟩ := HP.rbGet HOA.out (List.Mem.head _)
        have HSET := Lib.hid hset; have HBS := Lib.hid hbs; clear hset hbs
        go_wp2_with fail
        refine bodyPost_ret (results_cellrow_tmp (p := 4) (u := 5) (ty := 44) rfl _ _ (w.heap.size + 1) _ _ _ _ rfl (HP.rbGet HSET.out (List.Mem.head _)).2.2.2 Tryz.underlying44 rfl (by kernel_rfl)) rfl ⟨_, rfl, .inl ⟨rfl, rfl⟩, HD.out.trans HBS.out⟩
      rw [if_pos hns] at hmm
      have hnb : (n1 != sm) = false := by rw [bne_eq_false_iff_eq]; exact hns
      replace HMM := Lib.hid hmm; clear hmm hns hsm
      have HC3 := Lib.hid (fun W => cutS4_ok (s := l.extract 0 m) (c := 32) W (by rw [ByteArray.size_extract]; omega))
      rw [← wds_eq] at HC3
      have hcnt : (wdsB (l.extract 0 m)).length ≤ l.size + 1 := by
        have h1 : (wdsB (l.extract 0 m)).length = Lib.countB (l.extract 0 m) ⟨#[32]⟩ + 1 := Lib.splitB_all _ (by decide) 0 _ _ rfl
        have h2 := Lib.countB_le ⟨#[32]⟩ (by decide) _ (l.extract 0 m) (Nat.le_refl _)
        rw [ByteArray.size_extract] at h2; omega
      obtain ⟨pa, pr, hpr⟩ := pcsA_ne 32 (l.extract 0 m).data.toList []
      obtain ⟨w0, tl, hws⟩ : ∃ w0 tl, wdsB (l.extract 0 m) = w0 :: tl := ⟨_, _, (wds_eq _).trans (congrArg (List.map _) hpr)⟩
      rw [hws] at hcnt HC3
      rw [List.length_cons] at hcnt
      have hmm := HMM.out
      rw [hws] at hmm
      change lnRes4 x w0 (lnNums tl []) = some r at hmm
      replace HMM := Lib.hid hmm
      clear hmm hpr pa pr hws
      go_wp2_with fail
      refine (HC3.out _).mono ?_; rintro e W4 ⟨V, rfl, ho, hd⟩
      replace HOA := Lib.hid (HOA.out.call hd HD.out.size ho)
      replace HD := Lib.hid (HD.out.trans (hd.mono HD.out.size)); clear hd ho HC3
      obtain ⟨h, o, cw, hV⟩ := HP.strAt HOA.out (List.Mem.head _)
      subst hV
      replace HOA := Lib.hid (show HP W4 w.heap.size [.fl (owI (.slice none 0 0) []), .fl (owS (.slice (some ⟨h, o, none⟩) (tl.length + 1) cw) (w0 :: tl)), zeroRB (w.heap.size + 1), .fl (owRB w.heap.size (.slice A nx cap) x.2.1 x.2.2)] from HOA.out.pushNil _ _)
      clear hnb hsl hnegd hqb fxt fx hck
      go_wp2_with fail
      go_loopg [10, 11] (tl.length + 1) (fun gg u10 u11 wr => ∃ (j : Nat) (nums : List Int) (V : Value), V = u10 ∧ u11 = .int .i64 ((j + 1 : Nat) : Int) ∧ Hid (j + gg = tl.length + 1 ∧ nums.length = j ∧ j ≤ tl.length) ∧ Hid (Below w.heap.size w wr) ∧
        Hid (HP wr w.heap.size [.fl (owI V nums), .fl (owS (.slice (some ⟨h, o, none⟩) (tl.length + 1) cw) (w0 :: tl)), zeroRB (w.heap.size + 1), .fl (owRB w.heap.size (.slice A nx cap) x.2.1 x.2.2)]) ∧ Hid (lnRes4 x w0 (lnNums (tl.drop j) nums) = some r))
      case atStart => exact ⟨0, [], _, rfl, rfl, ⟨by omega, rfl, Nat.zero_le _⟩, HD, HOA, HMM⟩
      case round =>
        clear HD HOA HMM
        obtain ⟨j, nums, V, rfl, rfl, hj, HD, HOA, HMM⟩ := hrel
        rename World => W5
        obtain ⟨hjg, hnl, hjle⟩ := hj.out; clear hj
        by_cases hjn : j < tl.length
        · have hd := List.drop_eq_getElem_cons hjn
          have hlt : ((j + 1 : Nat) : Int) < ((tl.length + 1 : Nat) : Int) := by omega
          have hcj : W5.cell? ⟨h, o + (j + 1), none⟩ = some (.string tl[j]) := HP.strCell2 HOA.out (List.Mem.tail _ (List.Mem.head _)) (by rw [List.getElem?_cons_succ, List.getElem?_eq_getElem hjn])
          generalize hx : tl[j] = y at *
          have HDR := Lib.hid hd; clear hd hx
          go_wp2_with fail
          refine (num4_ok y _).mono ?_; rintro e W6 ⟨rfl, n2, rfl, hn2⟩
          clear hcj
          have hmm := HMM.out
          rw [HDR.out] at hmm
          unfold lnNums at hmm
          generalize hq : numM y = q at *
          obtain ⟨v2, f2⟩ := q
          dsimp only at hmm hn2
          cases f2
          · rw [if_neg (by decide)] at hmm
            obtain rfl : (x, 2) = r := Option.some.inj hmm
            clear hmm HMM hn2 hlt
            obtain ⟨⟨q0, q1, q2⟩, hset, hbs⟩ := HP.setRB (its1 := [_, _]) HOA.out (.slice A nx cap) x.2.1 x.2.2
            obtain ⟨k0, k1, k2, _⟩ := HP.rbGet HOA.out (List.Mem.tail _ (List.Mem.tail _ (List.Mem.tail _ (List.Mem.head _))))
            obtain ⟨r0, r1, r2, _⟩ := HP.rbGet HOA.out (List.Mem.tail _ (List.Mem.tail _ (List.Mem.head _)))
            have HSET := Lib.hid hset; have HBS := Lib.hid hbs; clear hset hbs
            go_wp2_with fail
            refine bodyPost_ret (results_cellrow_tmp (p := 4) (u := 5) (ty := 44) rfl _ _ (w.heap.size + 1) _ _ _ _ rfl (HP.rbGet HSET.out (List.Mem.tail _ (List.Mem.tail _ (List.Mem.head _)))).2.2.2 Tryz.underlying44 rfl (by kernel_rfl)) rfl ⟨_, rfl, .inl ⟨rfl, rfl⟩, HD.out.trans HBS.out⟩
          · obtain rfl := hn2 rfl
            rw [if_pos rfl] at hmm
            replace HMM := Lib.hid hmm; clear hmm
            obtain ⟨V2, W6, hrun, hoa, hd, hn⟩ := run_appI (e' := 3) (y := n2) (L1 := []) W5 62 62 Tryz.underlying62 HOA.out (show nums.length < 1000000000 by omega) HD.out.size
            have HRUN := Lib.hid hrun; have HOA2 := Lib.hid hoa; have HD2 := Lib.hid hd
            clear hrun hoa hd hn
            go_wp2_with (at_builtin; refine wp_appRun HRUN.out rfl rfl rfl rfl ?_)
            cases gk with
            | zero => omega
            | succ g1 =>
              go_roundg g1
              case measure => omega
              case rel => exact ⟨j + 1, nums ++ [n2], V2, rfl, by go_num, ⟨by omega, by rw [List.length_append, List.length_singleton]; omega, by omega⟩, Lib.hid (HD.out.trans HD2.out), HOA2, HMM⟩
        · have hje : j = tl.length := by omega
          subst hje
          have hmm := HMM.out
          rw [List.drop_length] at hmm
          unfold lnNums lnRes4 at hmm
          dsimp only at hmm
          obtain ⟨A5, cap5, hV, hrd⟩ := HP.open_I HOA.out (List.Mem.head _)
          subst hV
          have hc0 : W5.cell? ⟨h, o, none⟩ = some (.string w0) := HP.strCell2 (i := 0) HOA.out (List.Mem.tail _ (List.Mem.head _)) rfl
          generalize hj1 : (w0.toList == ([106] : List UInt8)) = j1 at *
          generalize hj2 : (w0.toList == ([99] : List UInt8)) = j2 at *
          have hone : (0 : Int) < ((tl.length + 1 : Nat) : Int) := by omega
          by_cases h2 : nums.length = 2
          case neg =>
            rw [if_neg h2] at hmm
            obtain rfl : (x, 2) = r := Option.some.inj hmm
            have hnb2 : (((nums.length : Nat) : Int) == 2) = false := by rw [beq_eq_false_iff_ne]; exact fun q => h2 (Int.ofNat.inj q)
            clear hmm HMM hrd h2 hjn hjg hnl
            cases j1 <;> cases j2
            all_goals (
              obtain ⟨⟨q0, q1, q2⟩, hset, hbs⟩ := HP.setRB (its1 := [_, _]) HOA.out (.slice A nx cap) x.2.1 x.2.2
              obtain ⟨k0, k1, k2, _⟩ := HP.rbGet HOA.out (List.Mem.tail _ (List.Mem.tail _ (List.Mem.tail _ (List.Mem.head _))))
              obtain ⟨r0, r1, r2, _⟩ := HP.rbGet HOA.out (List.Mem.tail _ (List.Mem.tail _ (List.Mem.head _)))
              have HSET := Lib.hid hset; have HBS := Lib.hid hbs; clear hset hbs
              go_wp2_with fail
              refine bodyPost_ret (results_cellrow_tmp (p := 4) (u := 5) (ty := 44) rfl _ _ (w.heap.size + 1) _ _ _ _ rfl (HP.rbGet HSET.out (List.Mem.tail _ (List.Mem.tail _ (List.Mem.head _)))).2.2.2 Tryz.underlying44 rfl (by kernel_rfl)) rfl ⟨_, rfl, .inl ⟨rfl, rfl⟩, HD.out.trans HBS.out⟩)
          rw [if_pos h2] at hmm
          have hnb2 : (((nums.length : Nat) : Int) == 2) = true := by rw [h2]; rfl
          obtain ⟨m0, m1, rfl⟩ : ∃ m0 m1, nums = [m0, m1] := by
            match nums, h2 with
            | [m0, m1], _ => exact ⟨m0, m1, rfl⟩
          obtain ⟨g9, o9, eA, hb9, hc9⟩ := hrd.2 (show 0 < 2 by decide)
          subst eA
          have f0 : W5.cell? ⟨g9, o9, none⟩ = some (.int .i64 m0) := hc9 0 _ rfl
          have f1 : W5.cell? ⟨g9, o9 + 1, none⟩ = some (.int .i64 m1) := hc9 1 _ rfl
          clear hrd hc9 hnl hjg hjn HMM
          cases j1
          · rw [if_neg (by decide)] at hmm
            cases j2
            · rw [if_neg (by decide)] at hmm
              obtain rfl : (x, 2) = r := Option.some.inj hmm
              obtain ⟨⟨q0, q1, q2⟩, hset, hbs⟩ := HP.setRB (its1 := [_, _]) HOA.out (.slice A nx cap) x.2.1 x.2.2
              obtain ⟨k0, k1, k2, _⟩ := HP.rbGet HOA.out (List.Mem.tail _ (List.Mem.tail _ (List.Mem.tail _ (List.Mem.head _))))
              obtain ⟨r0, r1, r2, _⟩ := HP.rbGet HOA.out (List.Mem.tail _ (List.Mem.tail _ (List.Mem.head _)))
              have HSET := Lib.hid hset; have HBS := Lib.hid hbs; clear hset hbs
              go_wp2_with fail
              refine bodyPost_ret (results_cellrow_tmp (p := 4) (u := 5) (ty := 44) rfl _ _ (w.heap.size + 1) _ _ _ _ rfl (HP.rbGet HSET.out (List.Mem.tail _ (List.Mem.tail _ (List.Mem.head _)))).2.2.2 Tryz.underlying44 rfl (by kernel_rfl)) rfl ⟨_, rfl, .inl ⟨rfl, rfl⟩, HD.out.trans HBS.out⟩
            rw [if_pos rfl] at hmm
            change mC4 x m0 m1 = some r at hmm
            have HMM := hmm; clear hmm
            go_upto_region 23 with (fail)
            obtain ⟨k0, k1, k2, _⟩ := HP.rbGet HOA.out (List.Mem.tail _ (List.Mem.tail _ (List.Mem.tail _ (List.Mem.head _))))
            have k0r := cell_regrown (w := W5.drew) k0
            have k1r := cell_regrown (w := W5.drew) k1
            have k2r := cell_regrown (w := W5.drew) k2
            have f0r := cell_regrown (w := W5.drew) f0
            have f1r := cell_regrown (w := W5.drew) f1
            refine wp_region_ph [.H [0, 1, 2, 3, 4, 5, 6], .S [7], .P 8, .P 9, .S [10, 11]] (by kernel_rfl) (by kernel_rfl) ?_
            refine wpPs_H ?_
            repeat (refine wpQI_step rfl rfl (fun K hK => ?_); go_simp; first | (refine hK _ ?_; clear hK K))
            refine wpQI_nil ?_
            intro _ hw_
            obtain ⟨⟨dq, osq⟩, hw_⟩ := hw_
            subst hw_
            have hd := below_regrown_drew W5 dq osq
            generalize Go.Sort.grow (redrawn W5.drew _) _ = W6 at *
            clear k0r k1r k2r k0 k1 k2 f0r f1r f0 f1 hc0
            replace HOA := Lib.hid (HOA.out.below hd)
            replace HD := Lib.hid (HD.out.trans (hd.mono HD.out.size)); clear hd
            have HC := Lib.hid (mC4_ok W6 cap (rdL HD.out HR.out) HMM)
            rw [← HNX.out] at HC
            unfold PostRB at HC
            refine wpPs_S rfl (fun Q' hQ' hL' => ?_)
            go_wp2_with fail
            refine HC.out.mono ?_; rintro e1 W7 ⟨V', rfl, hrb, hd⟩
            obtain ⟨A', n', cap', pre, rfl, hoa, hcl⟩ := rbo_split HOA.out hd HD.out.size hrb
            replace HOA := Lib.hid hoa; have HCL := Lib.hid hcl; clear hoa hcl hrb HC
            replace HD := Lib.hid (HD.out.trans (hd.mono HD.out.size)); clear hd
            try go_wp2_with fail
            refine hQ' _ _ ?_; clear hQ' hL' Q'
            repeat (refine wpPs_P rfl rfl (fun K hK => ?_); go_simp; refine hK _ ?_; clear hK K)
            obtain ⟨⟨q0, q1, q2⟩, hset, hbs⟩ := HP.setRB (its1 := pre ++ [_, _]) (by simpa using HOA.out) (.slice A' n' cap') r.1.2.1 r.1.2.2
            have hmem : zeroRB (w.heap.size + 1) ∈ pre ++ [.fl (owI (.slice (some ⟨g9, o9, none⟩) [m0, m1].length cap5) [m0, m1]), .fl (owS (.slice (some ⟨h, o, none⟩) (tl.length + 1) cw) (w0 :: tl)), zeroRB (w.heap.size + 1), .fl (owRB w.heap.size (.slice A nx cap) x.2.1 x.2.2)] := by simp
            obtain ⟨r0, r1, r2, _⟩ := HP.rbGet HOA.out hmem
            have HSET := Lib.hid hset; have HBS := Lib.hid hbs; clear hset hbs hmem
            refine wpPs_S rfl (fun Q' hQ' hL' => ?_)
            go_wp2_with fail
            refine hQ' _ _ ?_; clear hQ' hL' Q' q0 q1 q2 r0 r1 r2
            refine wpPs_nil ?_
            try go_wp2_with fail
            have hfin := HSET.out
            rw [List.append_assoc] at hfin
            refine bodyPost_ret (results_cellrow_tmp (p := 4) (u := 5) (ty := 44) rfl _ _ (w.heap.size + 1) _ _ _ _ rfl (HP.rbGet HSET.out (by simp)).2.2.2 Tryz.underlying44 rfl (by kernel_rfl)) rfl ⟨_, rfl, HCL.out _ _ hfin, HD.out.trans HBS.out⟩
          · rw [if_pos rfl] at hmm
            change mJ4 x m0 m1 = some r at hmm
            have HMM := hmm; clear hmm
            go_upto_region 21 with (fail)
            obtain ⟨k0, k1, k2, _⟩ := HP.rbGet HOA.out (List.Mem.tail _ (List.Mem.tail _ (List.Mem.tail _ (List.Mem.head _))))
            have k0r := cell_regrown (w := W5.drew) k0
            have k1r := cell_regrown (w := W5.drew) k1
            have k2r := cell_regrown (w := W5.drew) k2
            have f0r := cell_regrown (w := W5.drew) f0
            have f1r := cell_regrown (w := W5.drew) f1
            refine wp_region_ph [.H [0, 1, 2, 3, 4, 5, 6], .S [7], .P 8, .P 9, .S [10, 11]] (by kernel_rfl) (by kernel_rfl) ?_
            refine wpPs_H ?_
            repeat (refine wpQI_step rfl rfl (fun K hK => ?_); go_simp; first | (refine hK _ ?_; clear hK K))
            refine wpQI_nil ?_
            intro _ hw_
            obtain ⟨⟨dq, osq⟩, hw_⟩ := hw_
            subst hw_
            have hd := below_regrown_drew W5 dq osq
            generalize Go.Sort.grow (redrawn W5.drew _) _ = W6 at *
            clear k0r k1r k2r k0 k1 k2 f0r f1r f0 f1 hc0
            replace HOA := Lib.hid (HOA.out.below hd)
            replace HD := Lib.hid (HD.out.trans (hd.mono HD.out.size)); clear hd
            have HC := Lib.hid (mJ4_ok W6 cap (rdL HD.out HR.out) HMM)
            rw [← HNX.out] at HC
            unfold PostRB at HC
            refine wpPs_S rfl (fun Q' hQ' hL' => ?_)
            go_wp2_with fail
            refine HC.out.mono ?_; rintro e1 W7 ⟨V', rfl, hrb, hd⟩
            obtain ⟨A', n', cap', pre, rfl, hoa, hcl⟩ := rbo_split HOA.out hd HD.out.size hrb
            replace HOA := Lib.hid hoa; have HCL := Lib.hid hcl; clear hoa hcl hrb HC
            replace HD := Lib.hid (HD.out.trans (hd.mono HD.out.size)); clear hd
            try go_wp2_with fail
            refine hQ' _ _ ?_; clear hQ' hL' Q'
            repeat (refine wpPs_P rfl rfl (fun K hK => ?_); go_simp; refine hK _ ?_; clear hK K)
            obtain ⟨⟨q0, q1, q2⟩, hset, hbs⟩ := HP.setRB (its1 := pre ++ [_, _]) (by simpa using HOA.out) (.slice A' n' cap') r.1.2.1 r.1.2.2
            have hmem : zeroRB (w.heap.size + 1) ∈ pre ++ [.fl (owI (.slice (some ⟨g9, o9, none⟩) [m0, m1].length cap5) [m0, m1]), .fl (owS (.slice (some ⟨h, o, none⟩) (tl.length + 1) cw) (w0 :: tl)), zeroRB (w.heap.size + 1), .fl (owRB w.heap.size (.slice A nx cap) x.2.1 x.2.2)] := by simp
            obtain ⟨r0, r1, r2, _⟩ := HP.rbGet HOA.out hmem
            have HSET := Lib.hid hset; have HBS := Lib.hid hbs; clear hset hbs hmem
            refine wpPs_S rfl (fun Q' hQ' hL' => ?_)
            go_wp2_with fail
            refine hQ' _ _ ?_; clear hQ' hL' Q' q0 q1 q2 r0 r1 r2
            refine wpPs_nil ?_
            try go_wp2_with fail
            have hfin := HSET.out
            rw [List.append_assoc] at hfin
            refine bodyPost_ret (results_cellrow_tmp (p := 4) (u := 5) (ty := 44) rfl _ _ (w.heap.size + 1) _ _ _ _ rfl (HP.rbGet HSET.out (by simp)).2.2.2 Tryz.underlying44 rfl (by kernel_rfl)) rfl ⟨_, rfl, HCL.out _ _ hfin, HD.out.trans HBS.out⟩
end Go.Proofs.YtekfgkeimlidhaaGreatDoor
/- the document's Open -/
set_option linter.all false
set_option maxRecDepth 100000
namespace Go.Proofs.YtekfgkeimlidhaaGreatDoor
open Go.RowKit Go.Shelf Pl
theorem results_cellrow_tmp2 {P : Program} {fn : Func} {p u1 u2 : Tmp} {ty : TypeId} (h : fn.results = #[.cell p ty, .tmp u1, .tmp u2]) (tmps : Array Value) (w : World) (g : Nat) (t : TypeId) (cs : Array Value) (fr : Nat × Nat) (d : TypeDesc)
    (hp : tmps.getD p undef = .pointer (some ⟨g, 0, none⟩)) (hg : w.heap[g]? = some (.cells cs t fr))
    (hu : P.underlying ty = some d) (hd : (match d with | .struct _ | .array _ _ => true | _ => false) = true) (hi : (P.info? ty).map (·.size) = some cs.size) :
    (results fn tmps).run P w = .ok (.tuple #[.agg cs, tmps.getD u1 undef, tmps.getD u2 undef]) w := by
  have hp' : tmps[p]?.getD undef = .pointer (some ⟨g, 0, none⟩) := by simpa using hp
  simp [results, h, hp', asAddr, run_loadVar_row w g t ty cs fr d hg hu hd hi]
/-- a book of the document's, how many lines, what is wrong -/
def PostO4 (w : World) (r : RbT × Int × Int) : Ending → World → Prop := fun e w' =>
  ∃ V, e = .returned (.tuple #[.agg #[V, .string r.1.2.1, .int .i64 r.1.2.2], .int .i64 r.2.1, .int .i64 r.2.2]) ∧ Ow.ok w' w.heap.size (owL V r.1.1) ∧ Below w.heap.size w w'
theorem nilL_ok (W : World) (B : Nat) : Ow.ok W B (owL (.slice none 0 0) []) := ((HP.nil (W := W) (B := B)).pushNil 89 2).get (List.Mem.head _)
set_option maxHeartbeats 8000000 in
theorem mO4_ok {t : ByteArray} {r : RbT × Int × Int} (w : World) (hm : mO4 t = some r) : Calls Tryz.prog 33 #[.string t] w (PostO4 w r) := by
  unfold mO4 at hm
  unfold PostO4
  have HZ := Lib.hid (owRB_ok w (.slice none 0 0) ⟨#[]⟩ 0)
  by_cases hz : 2000 < t.size
  · rw [if_pos hz] at hm
    obtain rfl := Option.some.inj hm
    clear hm
    have hzd := decide_eq_true (show (2000 : Int) < (t.size : Int) by omega)
    have HOA := Lib.hid (HP.call (HP.nil (W := w) (B := w.heap.size)) ((Below.refl _ _).alloc (Nat.le_refl _) _) (Nat.le_refl _) HZ.out)
    have HD := Lib.hid (show Below w.heap.size w (w.alloc (.cells #[.slice none 0 0, .string { data := #[] }, .int .i64 0] 44)) from (Below.refl _ _).alloc (Nat.le_refl _) _)
    go_enter Tryz.func33, Tryz.ntmps33
    go_wp2_with fail
    refine bodyPost_ret (results_cellrow_tmp2 (p := 2) (u1 := 3) (u2 := 4) (ty := 44) rfl _ _ w.heap.size _ _ _ _ rfl (HP.rbGet HOA.out (List.Mem.head _)).2.2.2 Tryz.underlying44 rfl (by kernel_rfl)) rfl ⟨_, rfl, nilL_ok _ _, HD.out⟩
  · rw [if_neg hz] at hm
    have HM := Lib.hid hm; clear hm
    have HTS := Lib.hid (show t.size < 1000000 by omega)
    have hzd := decide_eq_false (show ¬ (2000 : Int) < (t.size : Int) by omega)
    have HOA := Lib.hid (rb_two w (.slice none 0 0) ⟨#[]⟩ 0)
    have HD := Lib.hid (show Below w.heap.size w ((w.alloc (.cells #[.slice none 0 0, .string { data := #[] }, .int .i64 0] 44)).alloc (.cells #[.slice none 0 0, .string { data := #[] }, .int .i64 0] 44)) from ((Below.refl _ _).alloc (Nat.le_refl _) _).alloc (by simp) _)
    go_enter Tryz.func33, Tryz.ntmps33
    go_upto_region 4 with (fail)
    generalize World.alloc (World.alloc w _) _ = W3 at *
    clear HZ
    have HC3 := Lib.hid (fun W => cutS4_ok (s := t) (c := 10) W HTS.out)
    obtain ⟨pa, pr, hpr⟩ := pcsA_ne 10 t.data.toList []
    have hpr : pcs 10 t.data.toList = pa :: pr := hpr
    rw [hpr] at HC3 HM
    have hlen : pr.length ≤ 2000 := by
      have : ∀ (l cur : List UInt8), (pcsA 10 cur l).length ≤ l.length + 1 := by
        intro l
        induction l with
        | nil => intro cur; simp [pcsA]
        | cons b l ih =>
          intro cur
          unfold pcsA
          split
          · rw [List.length_cons, List.length_cons]; have := ih []; omega
          · rw [List.length_cons]; have := ih (cur ++ [b]); omega
      have h1 := this t.data.toList []
      have h2 : pcsA 10 [] t.data.toList = pa :: pr := hpr
      rw [h2, List.length_cons, bytes_len] at h1; omega
    have HLEN := Lib.hid hlen
    clear hpr hlen
    go_wp2_with fail
    refine (HC3.out _).mono ?_; rintro e W4 ⟨V, rfl, ho, hd⟩
    replace HOA := Lib.hid (HOA.out.call hd HD.out.size ho)
    replace HD := Lib.hid (HD.out.trans (hd.mono HD.out.size)); clear hd ho HC3
    rw [List.map_cons] at HOA
    obtain ⟨h, o, cw, hV⟩ := HP.strAt HOA.out (List.Mem.head _)
    rw [List.length_map] at hV
    subst hV
    replace HOA := Lib.hid (show HP W4 w.heap.size [.fl (owL (.slice none 0 0) []), .fl (owS (.slice (some ⟨h, o, none⟩) (pr.length + 1) cw) ((pa :: pr).map fun x => (⟨x.toArray⟩ : ByteArray))), zeroRB (w.heap.size + 1), zeroRB w.heap.size] from HOA.out.pushNil 89 2)
    go_wp2_with fail
    go_loopg [7] (pr.length + 1) (fun gg u7 wr => ∃ (k : Nat) (x : RbT) (V : Value), u7 = .int .i64 (k : Int) ∧ Hid (k ≤ pr.length ∧ gg = pr.length + 1 - k) ∧ Hid (Below w.heap.size w wr) ∧
      Hid (HP wr w.heap.size [.fl (owL V x.1), .fl (owS (.slice (some ⟨h, o, none⟩) (pr.length + 1) cw) ((pa :: pr).map fun x => (⟨x.toArray⟩ : ByteArray))), .fl (owRB (w.heap.size + 1) V x.2.1 x.2.2), zeroRB w.heap.size]) ∧ Hid (opD ((pa :: pr).drop k) x k = some r))
    case atStart => exact ⟨0, rb0, _, rfl, Lib.hid ⟨by omega, by omega⟩, HD, HOA, HM⟩
    case round =>
      clear HD HOA HM
      obtain ⟨k, x, V, rfl, hk, HD, HOA, HM⟩ := hrel
      rename World => W5
      obtain ⟨hkp, hkg⟩ := hk.out
      have hll := HLEN.out
      obtain ⟨A5, cap5, hV, _⟩ := HP.open_L HOA.out (List.Mem.head _)
      subst hV
      have hkl : k < (pa :: pr).length := by rw [List.length_cons]; omega
      have hd := List.drop_eq_getElem_cons hkl
      have hcj : W5.cell? ⟨h, o + k, none⟩ = some (.string ⟨((pa :: pr)[k]).toArray⟩) := HP.strCell2 HOA.out (List.Mem.tail _ (List.Mem.head _)) (by rw [List.getElem?_map, List.getElem?_eq_getElem hkl]; rfl)
      have HPX := Lib.hid (List.getElem?_eq_getElem hkl)
      generalize (pa :: pr)[k] = p at *
      by_cases hlt : k < pr.length
      · have hltd : ((k : Int) + 1) < ((pr.length + 1 : Nat) : Int) := by omega
        have hkb : (k : Int) < (pr.length : Int) + 1 := by omega
        have hkn : k < pr.length + 1 := by omega
        have hk1 : k + 1 < (pa :: pr).length := by rw [List.length_cons]; omega
        have hd1 := List.drop_eq_getElem_cons hk1
        have hm := HM.out
        rw [hd, hd1] at hm
        generalize (pa :: pr)[k + 1] = p1 at *
        unfold opD at hm
        rw [← hd1] at hm
        obtain ⟨y, hy, hm⟩ := obind hm
        replace HM := Lib.hid hm; have HY := Lib.hid hy
        clear hm hy hd hd1
        go_upto_region 8 with (fail)
        obtain ⟨k0, k1, k2, k3⟩ := HP.rbGet HOA.out (List.Mem.tail _ (List.Mem.tail _ (List.Mem.head _)))
        obtain ⟨C_, hC_⟩ : ∃ C_ : World → Prop, C_ = fun W_ => W_.cell? ⟨w.heap.size + 1, 0, none⟩ = some (.slice A5 x.1.length cap5) ∧ W_.cell? ⟨w.heap.size + 1, 1, none⟩ = some (.string x.2.1) ∧ W_.cell? ⟨w.heap.size + 1, 2, none⟩ = some (.int .i64 x.2.2) ∧ W_.cell? ⟨h, o + k, none⟩ = some (.string ⟨p.toArray⟩) := ⟨_, rfl⟩
        have hC5 : C_ W5.drew := by rw [hC_]; exact ⟨k0, k1, k2, hcj⟩
        have hCk : ∀ (W : World) (its : List It), HP W w.heap.size its → It.fl (owRB (w.heap.size + 1) (.slice A5 x.1.length cap5) x.2.1 x.2.2) ∈ its → It.fl (owS (.slice (some ⟨h, o, none⟩) (pr.length + 1) cw) ((pa :: pr).map fun x => (⟨x.toArray⟩ : ByteArray))) ∈ its → C_ W := fun W its hp m1 m2 => by
          rw [hC_]
          obtain ⟨e0, e1, e2, _⟩ := HP.rbGet hp m1
          exact ⟨e0, e1, e2, HP.strCell2 hp m2 (by rw [List.getElem?_map, HPX.out]; rfl)⟩
        have hCd : ∀ W_, C_ W_ → W_.cell? ⟨w.heap.size + 1, 0, none⟩ = some (.slice A5 x.1.length cap5) ∧ W_.cell? ⟨w.heap.size + 1, 1, none⟩ = some (.string x.2.1) ∧ W_.cell? ⟨w.heap.size + 1, 2, none⟩ = some (.int .i64 x.2.2) ∧ W_.cell? ⟨h, o + k, none⟩ = some (.string ⟨p.toArray⟩) := fun W_ hh => by rw [hC_] at hh; exact hh
        have HCD := Lib.hid hCd; have HCK := Lib.hid hCk; have HC5 := Lib.hid hC5
        clear hCd hCk hC5 hC_ k0 k1 k2 k3 hcj
        refine wp_region_pht C_ (.P 0 (.P 1 (.P 2 (.P 3 (.P 4 (.B 5 9 (.P 6 (.P 7 (.P 8 (.S 9 (.S 10 (.P 11 .N)))))) (.S 5 (.P 6 (.P 7 (.P 8 (.S 10 (.P 11 .N))))))))))))  (by kernel_rfl) (by kernel_rfl) HC5.out ?_
        iterate 5 (refine wpTs_P rfl rfl (fun K hK => ?_); apply Exists.intro; refine ⟨fun W_ hc_ => ?_, ?_⟩; (have c_ := HCD.out W_ hc_; have c0_ := c_.1; have c1_ := c_.2.1; have c2_ := c_.2.2.1; have c3_ := c_.2.2.2; clear c_ hc_; go_simp; try rfl); (go_simp; refine hK _ ?_; clear hK K))
        replace HOA := Lib.hid (HOA.out.dr (Dr.one _))
        replace HD := Lib.hid (HD.out.trans ((Dr.one _).below _))
        generalize hW6 : World.drew W5 = W6 at *
        clear hW6
        refine wpTs_B rfl rfl (fun Q' hQ' hL' => ?_) (fun Q' hQ' hL' => ?_)
        · have HC := Lib.hid (line4_ok W6 (HP.rd_L HOA.out (List.Mem.head _)) (cap := cap5) HY.out)
          unfold PostRB at HC
          go_wp2_with fail
          refine HC.out.mono ?_; rintro e1 W7 ⟨V', rfl, hrb, hd⟩
          replace HOA := Lib.hid (HP.rbo (its1 := []) HOA.out hd HD.out.size hrb)
          have HC7 := Lib.hid (HCK.out W7 _ HOA.out (by simp) (by simp))
          replace HD := Lib.hid (HD.out.trans (hd.mono HD.out.size)); clear hd hrb HC
          try go_wp2_with fail
          refine hQ' _ _ HC7.out ?_; clear hQ' hL' Q' HC7
          iterate 3 (refine wpTs_P rfl rfl (fun K hK => ?_); apply Exists.intro; refine ⟨fun W_ hc_ => ?_, ?_⟩; (go_simp; try rfl); (go_simp; refine hK _ ?_; clear hK K))
          have hb8 : Below W7.heap.size W7 (W7.alloc (.cells #[.slice none 0 0, .string { data := #[] }, .int .i64 0] 44)) := (Below.refl _ _).alloc (Nat.le_refl _) _
          replace HOA := Lib.hid (HP.call HOA.out hb8 HD.out.size (owRB_ok W7 (.slice none 0 0) ⟨#[]⟩ 0))
          have HC8 := Lib.hid (HCK.out _ _ HOA.out (by simp) (by simp))
          replace HD := Lib.hid (HD.out.trans (hb8.mono HD.out.size)); clear hb8
          refine wpTs_S rfl (fun Q' hQ' hL' => ?_)
          go_wp2_with fail
          refine hQ' _ _ HC8.out ?_; clear hQ' hL' Q' HC8
          generalize W7.heap.size = g8 at *
          generalize World.alloc W7 _ = W8 at *
          obtain ⟨A7, cap7, hV, _⟩ := HP.open_L HOA.out (List.Mem.tail _ (List.Mem.head _))
          subst hV
          obtain ⟨r0, r1, r2, _⟩ := HP.rbGet HOA.out (List.Mem.head _)
          obtain ⟨⟨q0, q1, q2⟩, hset, hbs⟩ := HP.setRB (its1 := []) HOA.out (.slice A7 y.1.1.length cap7) y.1.2.1 y.1.2.2
          have HC9 := Lib.hid (HCK.out _ _ hset (by simp) (by simp))
          have HSET := Lib.hid hset; have HBS := Lib.hid hbs; clear hset hbs
          refine wpTs_S rfl (fun Q' hQ' hL' => ?_)
          go_wp2_with fail
          refine hQ' _ _ HC9.out ?_; clear hQ' hL' Q' HC9 q0 q1 q2 r0 r1 r2
          iterate 1 (refine wpTs_P rfl rfl (fun K hK => ?_); apply Exists.intro; refine ⟨fun W_ hc_ => ?_, ?_⟩; (go_simp; try rfl); (go_simp; refine hK _ ?_; clear hK K))
          refine wpTs_N ?_
          replace HOA := HSET; replace HD := Lib.hid (HD.out.trans HBS.out); clear HSET HBS
          generalize World.setCell (World.setCell (World.setCell W8 _ _) _ _) _ _ = W9 at *
          have hm := HM.out
          clear HM
          by_cases he : y.2 = 0
          · rw [if_pos he] at hm
            have hed : (y.2 != 0) = false := by rw [he]; rfl
            obtain ⟨k0, k1, k2, _⟩ := HP.rbGet HOA.out (List.Mem.head _)
            obtain ⟨r0, r1, r2, _⟩ := HP.rbGet HOA.out (List.Mem.tail _ (List.Mem.tail _ (List.Mem.tail _ (List.Mem.head _))))
            obtain ⟨⟨q0, q1, q2⟩, hset, hbs⟩ := HP.setRB (its1 := [_, _, _]) HOA.out (.slice A7 y.1.1.length cap7) y.1.2.1 y.1.2.2
            have HSET := Lib.hid hset; have HBS := Lib.hid hbs; have HM := Lib.hid hm; clear hset hbs hm hkb hkn hltd he
            go_wp2_with fail
            go_roundg (pr.length + 1 - (k + 1))
            case measure => omega
            case rel => exact ⟨k + 1, y.1, _, by go_num, Lib.hid ⟨by omega, by omega⟩, Lib.hid (HD.out.trans HBS.out), Lib.hid (HSET.out.sub (.cons _ (List.Sublist.refl _))), HM⟩
          · rw [if_neg he] at hm
            have hed : (y.2 != 0) = true := by rw [bne_iff_ne]; exact he
            obtain rfl := Option.some.inj hm
            obtain ⟨r0, r1, r2, _⟩ := HP.rbGet HOA.out (List.Mem.tail _ (List.Mem.tail _ (List.Mem.tail _ (List.Mem.tail _ (List.Mem.head _)))))
            obtain ⟨⟨q0, q1, q2⟩, hset, hbs⟩ := HP.setRB (its1 := [_, _, _, _]) HOA.out (.slice none 0 0) ⟨#[]⟩ 0
            have HSET := Lib.hid hset; have HBS := Lib.hid hbs; clear hset hbs hm hkb hkn hltd
            go_wp2_with fail
            refine bodyPost_ret (results_cellrow_tmp2 (p := 2) (u1 := 3) (u2 := 4) (ty := 44) rfl _ _ w.heap.size _ _ _ _ rfl (HP.rbGet HSET.out (List.Mem.tail _ (List.Mem.tail _ (List.Mem.tail _ (List.Mem.tail _ (List.Mem.head _)))))).2.2.2 Tryz.underlying44 rfl (by kernel_rfl)) rfl ⟨_, rfl, nilL_ok _ _, HD.out.trans HBS.out⟩

        · have hb8 : Below W6.heap.size W6 (W6.alloc (.cells #[.slice none 0 0, .string { data := #[] }, .int .i64 0] 44)) := (Below.refl _ _).alloc (Nat.le_refl _) _
          replace HOA := Lib.hid (HP.call HOA.out hb8 HD.out.size (owRB_ok W6 (.slice none 0 0) ⟨#[]⟩ 0))
          have HC8 := Lib.hid (HCK.out _ _ HOA.out (by simp) (by simp))
          replace HD := Lib.hid (HD.out.trans (hb8.mono HD.out.size)); clear hb8
          go_wp2_with fail
          refine hQ' _ _ HC8.out ?_; clear hQ' hL' Q' HC8
          generalize W6.heap.size = g8 at *
          generalize World.alloc W6 _ = W7 at *
          have HC := Lib.hid (line4_ok W7 (HP.rd_L HOA.out (List.Mem.tail _ (List.Mem.head _))) (cap := cap5) HY.out)
          unfold PostRB at HC
          refine wpTs_S rfl (fun Q' hQ' hL' => ?_)
          go_wp2_with fail
          refine HC.out.mono ?_; rintro e1 W8 ⟨V', rfl, hrb, hd⟩
          replace HOA := Lib.hid (HP.rbo (its1 := [_]) HOA.out hd HD.out.size hrb)
          have HC7 := Lib.hid (HCK.out W8 _ HOA.out (by simp) (by simp))
          replace HD := Lib.hid (HD.out.trans (hd.mono HD.out.size)); clear hd hrb HC
          try go_wp2_with fail
          refine hQ' _ _ HC7.out ?_; clear hQ' hL' Q' HC7
          iterate 3 (refine wpTs_P rfl rfl (fun K hK => ?_); apply Exists.intro; refine ⟨fun W_ hc_ => ?_, ?_⟩; (go_simp; try rfl); (go_simp; refine hK _ ?_; clear hK K))
          obtain ⟨A7, cap7, hV, _⟩ := HP.open_L HOA.out (List.Mem.tail _ (List.Mem.head _))
          subst hV
          obtain ⟨r0, r1, r2, _⟩ := HP.rbGet HOA.out (List.Mem.head _)
          obtain ⟨⟨q0, q1, q2⟩, hset, hbs⟩ := HP.setRB (its1 := []) HOA.out (.slice A7 y.1.1.length cap7) y.1.2.1 y.1.2.2
          have HC9 := Lib.hid (HCK.out _ _ hset (by simp) (by simp))
          have HSET := Lib.hid hset; have HBS := Lib.hid hbs; clear hset hbs
          refine wpTs_S rfl (fun Q' hQ' hL' => ?_)
          go_wp2_with fail
          refine hQ' _ _ HC9.out ?_; clear hQ' hL' Q' HC9 q0 q1 q2 r0 r1 r2
          iterate 1 (refine wpTs_P rfl rfl (fun K hK => ?_); apply Exists.intro; refine ⟨fun W_ hc_ => ?_, ?_⟩; (go_simp; try rfl); (go_simp; refine hK _ ?_; clear hK K))
          refine wpTs_N ?_
          replace HOA := HSET; replace HD := Lib.hid (HD.out.trans HBS.out); clear HSET HBS
          generalize World.setCell (World.setCell (World.setCell W8 _ _) _ _) _ _ = W9 at *
          have hm := HM.out
          clear HM
          by_cases he : y.2 = 0
          · rw [if_pos he] at hm
            have hed : (y.2 != 0) = false := by rw [he]; rfl
            obtain ⟨k0, k1, k2, _⟩ := HP.rbGet HOA.out (List.Mem.head _)
            obtain ⟨r0, r1, r2, _⟩ := HP.rbGet HOA.out (List.Mem.tail _ (List.Mem.tail _ (List.Mem.tail _ (List.Mem.head _))))
            obtain ⟨⟨q0, q1, q2⟩, hset, hbs⟩ := HP.setRB (its1 := [_, _, _]) HOA.out (.slice A7 y.1.1.length cap7) y.1.2.1 y.1.2.2
            have HSET := Lib.hid hset; have HBS := Lib.hid hbs; have HM := Lib.hid hm; clear hset hbs hm hkb hkn hltd he
            go_wp2_with fail
            go_roundg (pr.length + 1 - (k + 1))
            case measure => omega
            case rel => exact ⟨k + 1, y.1, _, by go_num, Lib.hid ⟨by omega, by omega⟩, Lib.hid (HD.out.trans HBS.out), Lib.hid (HSET.out.sub (.cons _ (List.Sublist.refl _))), HM⟩
          · rw [if_neg he] at hm
            have hed : (y.2 != 0) = true := by rw [bne_iff_ne]; exact he
            obtain rfl := Option.some.inj hm
            obtain ⟨r0, r1, r2, _⟩ := HP.rbGet HOA.out (List.Mem.tail _ (List.Mem.tail _ (List.Mem.tail _ (List.Mem.tail _ (List.Mem.head _)))))
            obtain ⟨⟨q0, q1, q2⟩, hset, hbs⟩ := HP.setRB (its1 := [_, _, _, _]) HOA.out (.slice none 0 0) ⟨#[]⟩ 0
            have HSET := Lib.hid hset; have HBS := Lib.hid hbs; clear hset hbs hm hkb hkn hltd
            go_wp2_with fail
            refine bodyPost_ret (results_cellrow_tmp2 (p := 2) (u1 := 3) (u2 := 4) (ty := 44) rfl _ _ w.heap.size _ _ _ _ rfl (HP.rbGet HSET.out (List.Mem.tail _ (List.Mem.tail _ (List.Mem.tail _ (List.Mem.tail _ (List.Mem.head _)))))).2.2.2 Tryz.underlying44 rfl (by kernel_rfl)) rfl ⟨_, rfl, nilL_ok _ _, HD.out.trans HBS.out⟩
      · have hke : k = pr.length := by omega
        have hltd := decide_eq_false (show ¬ ((k : Int) + 1) < ((pr.length + 1 : Nat) : Int) by omega)
        have hd0 : (pa :: pr).drop (k + 1) = [] := by rw [List.drop_eq_nil_iff, List.length_cons]; omega
        have hm := HM.out
        rw [hd, hd0] at hm
        obtain rfl : (x, (k : Int), (0 : Int)) = r := Option.some.inj hm
        obtain ⟨k0, k1, k2, _⟩ := HP.rbGet HOA.out (List.Mem.tail _ (List.Mem.tail _ (List.Mem.head _)))
        obtain ⟨r0, r1, r2, _⟩ := HP.rbGet HOA.out (List.Mem.tail _ (List.Mem.tail _ (List.Mem.tail _ (List.Mem.head _))))
        obtain ⟨⟨q0, q1, q2⟩, hset, hbs⟩ := HP.setRB (its1 := [_, _, _]) HOA.out (.slice A5 x.1.length cap5) x.2.1 x.2.2
        have HSET := Lib.hid hset; have HBS := Lib.hid hbs; have HKE := Lib.hid hke; clear hset hbs hm hcj hd hd0 hke
        go_wp2_with fail
        refine bodyPost_ret (results_cellrow_tmp2 (p := 2) (u1 := 3) (u2 := 4) (ty := 44) rfl _ _ w.heap.size _ _ _ _ rfl (HP.rbGet HSET.out (List.Mem.tail _ (List.Mem.tail _ (List.Mem.tail _ (List.Mem.head _))))).2.2.2 Tryz.underlying44 rfl (by kernel_rfl)) rfl ⟨_, by rw [HKE.out]; rfl, HSET.out.get (List.Mem.head _), HD.out.trans HBS.out⟩
end Go.Proofs.YtekfgkeimlidhaaGreatDoor
