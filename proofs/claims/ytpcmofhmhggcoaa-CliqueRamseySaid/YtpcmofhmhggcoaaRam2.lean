import Derived.Test.YtpcmofhmhggcoaaRamsey
import Derived.Test.YtpcmofhmhggcoaaCM
namespace Go.Proofs.Ytpcmofhmhggcoaa
open Go.RowKit Go.Shelf Pl
theorem ramseySays : RamseySays := by
  intro k l h6 h8 hin hne
  have hrow := besM_row hin
  have hsym := besM_sym hin
  have hnl : NoLoop (besM k l) := besM_ne hin hne
  obtain ⟨x, y, z, hxy, hyz, hz, h⟩ := ramsey6 (adj (besM k l))
  have hnd : [x, y, z].Nodup := by simp; omega
  have hlt : ∀ v ∈ [x, y, z], v < k := by simp; omega
  rcases h with ⟨a, b, c⟩ | ⟨a, b, c⟩
  · left
    refine clique_most _ hsym hnl h8 [x, y, z] hnd hlt ?_
    intro u hu v hv hne'
    simp only [List.mem_cons, List.not_mem_nil, or_false] at hu hv
    rcases hu with rfl | rfl | rfl <;> rcases hv with rfl | rfl | rfl <;> first | exact absurd rfl hne' | assumption | (rw [hsym]; assumption)
  · right
    have hsy := others_sym hrow.1 hrow.2 hsym
    have hon : ∀ u v, u < k → v < k → u ≠ v → adj (besM k l) u v = false → adj (othersM (besM k l) k) u v = true := by
      intro u v hu hv huv he
      unfold adj at he ⊢
      rw [others_bit _ k hrow.1 u v hu, he]; simp [hv, huv]
    have a' := hon x y (by omega) (by omega) (by omega) a
    have b' := hon x z (by omega) (by omega) (by omega) b
    have c' := hon y z (by omega) (by omega) (by omega) c
    refine clique_most _ hsy (others_loop _ k hrow.1) h8 [x, y, z] hnd hlt ?_
    intro u hu v hv hne'
    simp only [List.mem_cons, List.not_mem_nil, or_false] at hu hv
    rcases hu with rfl | rfl | rfl <;> rcases hv with rfl | rfl | rfl <;> first | exact absurd rfl hne' | assumption | (rw [hsy]; assumption)
theorem cliqueRamsey_any (w : World) (n : Int) (hn : (Lit.int .i64 n).wf = true) (A : Option Addr) (cap : Nat) (l : List (Int × Int)) (hr : ReadsL w w.heap.size A l) (hl : l.length ≤ maxLen) :
    Calls Try.prog 5 #[.int .i64 n, .slice A l.length cap] w fun e w' => e = .returned (.bool true) ∧ Below w.heap.size w w' :=
  cliqueRamsey_of ramseySays w n hn A cap l hr hl
end Go.Proofs.Ytpcmofhmhggcoaa
