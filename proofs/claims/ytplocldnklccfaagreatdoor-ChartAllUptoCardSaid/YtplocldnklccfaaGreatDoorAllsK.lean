/- ChartAll: the walk. -/
import Derived.Test.YtplocldnklccfaaGreatDoorPlaysAK
namespace Go.Proofs.YtplocldnklccfaaGreatDoor
open Go.RowKit
set_option linter.unusedVariables false
set_option linter.unusedSimpArgs false

set_option maxRecDepth 100000 in
theorem all_walk {w : World} {fv av : Value} {l : List Acct} {acts : List ActR} (h : AccAt w fv l) (hle : l.length ≤ 1048576) (hs : ∀ a ∈ l, a.name.size ≤ 1048576) (ha : ActsAt w av acts) (hp : Pow w) :
    Calls Tryz.prog 5 #[.agg #[fv, av]] w fun e w' => e = .returned (.bool true) ∧ Below w.heap.size w w' := by
  obtain ⟨wb, hwb⟩ : ∃ wb, wb = w.alloc (.cells #[fv, av] 58) := ⟨_, rfl⟩
  have HBB : Hid (Below w.heap.size w wb) := Lib.hid (by rw [hwb]; exact bel1 w _)
  have hx : wb.heap[w.heap.size]? = some (.cells #[fv, av] 58 (0, 0)) := by rw [hwb]; exact World.alloc_heap_new w _
  have p0 : wb.cell? ⟨w.heap.size, 0, none⟩ = some fv := by rw [cell_of_blk hx]; rfl
  have p1 : wb.cell? ⟨w.heap.size, 1, none⟩ = some av := by rw [cell_of_blk hx]; rfl
  have hc := plays_all (h.below HBB.out) (ha.below HBB.out) (hp.below HBB.out) hle hs
  rw [hwb] at p0 p1
  have HC := Lib.hid hc
  clear h hs ha hp hx hc
  go_enter Tryz.func5, Tryz.ntmps5
  go_wp2_with (go_at_call 20; rw [← hwb]; refine HC.out.mono ?_; clear hwb p0 p1; rintro e w1 ⟨rfl, b1⟩; have H1 := Lib.hid b1; clear b1)
  go_ret
  exact ⟨rfl, HBB.out.trans (H1.out.mono HBB.out.size)⟩
end Go.Proofs.YtplocldnklccfaaGreatDoor
