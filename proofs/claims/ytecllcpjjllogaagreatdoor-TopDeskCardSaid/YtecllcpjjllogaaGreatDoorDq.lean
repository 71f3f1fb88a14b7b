import Derived.Test.YtecllcpjjllogaaGreatDoorDp
/- DeskBegins, DeskLines -/
set_option linter.all false
set_option maxRecDepth 100000
namespace Go.Proofs.YtecllcpjjllogaaGreatDoor
open Go.RowKit Go.Shelf Pl
theorem ans_none {b : BkT} {s : ByteArray} (hs : s.size ≤ 100000) (h : vbO ((wdsB s).getD 0 ByteArray.empty) = none) : mAns b s = some (badS, b) := by
  unfold mAns
  rw [if_pos hs]
  cases wdN (wdsB s).tail [] with
  | none => rfl
  | some ns => show mVerb b _ ns = _; unfold mVerb; rw [h]
theorem ans_many {b : BkT} (h : BInv b) : mAns b ⟨#[109, 97, 110, 121]⟩ = some (dec ((linesOf b.1).length : Int), b) := by
  have hw : (wdsB ⟨#[109, 97, 110, 121]⟩).map (fun x => x.data.toList) = [[109, 97, 110, 121]] := by decide +kernel
  have hw2 : wdsB ⟨#[109, 97, 110, 121]⟩ = [⟨#[109, 97, 110, 121]⟩] := by
    rw [map_bytes hw]; rfl
  have hv : vbO ⟨#[109, 97, 110, 121]⟩ = some (0, 3) := by decide +kernel
  have hle := linesOf_le b.1
  unfold mAns
  rw [if_pos (by decide), hw2]
  show mVerb b ⟨#[109, 97, 110, 121]⟩ [] = _
  unfold mVerb
  rw [hv]
  show (if ([] : List Int).length = 0 then vAct b 3 [] else some (badS, b)) = _
  rw [if_pos (show ([] : List Int).length = 0 from rfl)]
  unfold vAct
  rw [if_neg (by decide), if_neg (by decide), if_neg (by decide), if_pos rfl, lines_ev h, Option.bind_some]
  unfold chkO
  rw [if_pos (by omega)]
theorem fact_many : mRun ⟨#[109, 97, 110, 121]⟩ = some ⟨#[48, 10]⟩ := by
  have h0 : (linesOf newB.1).length = 0 := by decide +kernel
  have h1 : runL newB (linesR [109, 97, 110, 121]) = some ([48, 10], newB) := by
    show runL newB [[109, 97, 110, 121]] = _
    show ((mAns newB ⟨#[109, 97, 110, 121]⟩).bind fun r => (runL r.2 []).map fun q => (r.1.data.toList ++ 10 :: q.1, q.2)) = _
    rw [ans_many new_inv, Option.bind_some, h0]
    show some ((dec ((0 : Nat) : Int)).data.toList ++ 10 :: [], newB) = _
    rw [dec_1 (by omega)]; rfl
  unfold mRun
  rw [if_neg (by decide), run_eq _ newB ⟨#[109, 97, 110, 121]⟩ ⟨#[]⟩ [48, 10] newB h1 (by decide) (by decide)]
  rfl
theorem join_new : mJoin newB 0 1 = some (0, joinB newB 0 1) := by
  unfold mJoin
  rw [if_pos new_inv.ok, if_pos (by decide), if_neg (by decide +kernel), if_neg (by decide)]
theorem fact_join : mRun ⟨#[106, 111, 105, 110, 32, 48, 32, 49, 10, 10, 98]⟩ = some ⟨#[111, 107, 10, 98, 97, 100, 10, 98, 97, 100, 10]⟩ := by
  have hw : (wdsB ⟨#[106, 111, 105, 110, 32, 48, 32, 49]⟩).map (fun x => x.data.toList) = [[106, 111, 105, 110], [48], [49]] := by decide +kernel
  have hw2 : wdsB ⟨#[106, 111, 105, 110, 32, 48, 32, 49]⟩ = [⟨#[106, 111, 105, 110]⟩, ⟨#[48]⟩, ⟨#[49]⟩] := by
    rw [map_bytes hw]; rfl
  have n0 : numM ⟨#[48]⟩ = (((0 : Nat) : Int), true) := num_dec (v := ((0 : Nat) : Int)) (x := ⟨#[48]⟩) (chkA_ok (by decide +kernel)) (by omega) (dec_1 (i := 0) (by omega))
  have n1 : numM ⟨#[49]⟩ = (((1 : Nat) : Int), true) := num_dec (v := ((1 : Nat) : Int)) (x := ⟨#[49]⟩) (chkA_ok (by decide +kernel)) (by omega) (dec_1 (i := 1) (by omega))
  have o0 : okW ⟨#[48]⟩ = true := by unfold okW; rw [n0]; rfl
  have o1 : okW ⟨#[49]⟩ = true := by unfold okW; rw [n1]; rfl
  have hv : vbO ⟨#[106, 111, 105, 110]⟩ = some (2, 0) := by decide +kernel
  have hd : wdN [⟨#[48]⟩, ⟨#[49]⟩] [] = some [0, 1] := by
    unfold wdN; rw [if_pos o0, n0]
    unfold wdN; rw [if_pos o1, n1]; rfl
  have a1 : mAns newB ⟨#[106, 111, 105, 110, 32, 48, 32, 49]⟩ = some (tld 0, joinB newB 0 1) := by
    unfold mAns
    rw [if_pos (by decide), hw2]
    show (match wdN [⟨#[48]⟩, ⟨#[49]⟩] [] with | none => some (badS, newB) | some ns => mVerb newB ⟨#[106, 111, 105, 110]⟩ ns) = _
    rw [hd]
    show mVerb newB ⟨#[106, 111, 105, 110]⟩ [0, 1] = _
    unfold mVerb
    rw [hv]
    show (if ([0, 1] : List Int).length = 2 then vAct newB 0 [0, 1] else some (badS, newB)) = _
    rw [if_pos (show ([0, 1] : List Int).length = 2 from rfl)]
    unfold vAct
    rw [if_pos rfl]
    show (mJoin newB 0 1).bind _ = _
    rw [join_new, Option.bind_some]; rfl
  have a2 : ∀ b : BkT, mAns b ⟨#[]⟩ = some (badS, b) := fun b => ans_none (by decide) (by decide +kernel)
  have a3 : ∀ b : BkT, mAns b ⟨#[98]⟩ = some (badS, b) := fun b => ans_none (by decide) (by decide +kernel)
  have h1 : runL newB (linesR [106, 111, 105, 110, 32, 48, 32, 49, 10, 10, 98]) = some ([111, 107, 10, 98, 97, 100, 10, 98, 97, 100, 10], joinB newB 0 1) := by
    show runL newB [[106, 111, 105, 110, 32, 48, 32, 49], [], [98]] = _
    show ((mAns newB ⟨#[106, 111, 105, 110, 32, 48, 32, 49]⟩).bind fun r => (runL r.2 [[], [98]]).map fun q => (r.1.data.toList ++ 10 :: q.1, q.2)) = _
    rw [a1, Option.bind_some]
    show (((mAns (joinB newB 0 1) ⟨#[]⟩).bind fun r => (runL r.2 [[98]]).map fun q => (r.1.data.toList ++ 10 :: q.1, q.2))).map _ = _
    rw [a2, Option.bind_some]
    show ((((mAns (joinB newB 0 1) ⟨#[98]⟩).bind fun r => (runL r.2 []).map fun q => (r.1.data.toList ++ 10 :: q.1, q.2))).map _).map _ = _
    rw [a3, Option.bind_some]; rfl
  unfold mRun
  rw [if_neg (by decide), run_eq _ newB ⟨#[106, 111, 105, 110, 32, 48, 32, 49, 10, 10, 98]⟩ ⟨#[]⟩ _ _ h1 (by decide) (by decide)]
  rfl
end Go.Proofs.YtecllcpjjllogaaGreatDoor
