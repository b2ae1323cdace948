/- Parent. -/
import Derived.Test.YthbiepgpflpfoaaDoorChart
import Derived.Test.YthbiepgpflpfoaaDoorGood
namespace Go.Proofs.YthbiepgpflpfoaaDoor
open Go.RowKit
set_option linter.unusedVariables false
set_option linter.unusedSimpArgs false

theorem Parent_any (s : ByteArray) (w : World) (hs : s.size ≤ 140737488355328) :
    Calls Tryd.prog 10 #[.string s] w fun e w' => e = .returned (.tuple #[.string ((parentF s).getD ⟨#[]⟩), .bool (parentF s).isSome]) ∧ Below w.heap.size w w' := by
  have hl := Tryd.strings_LastIndexByte s 58 (by omega) w
  have hg := fun w => Good_any s w (by unfold maxLen; omega)
  obtain ⟨i, hi⟩ : ∃ i, i = Lib.lastIndexByte s 58 := ⟨_, rfl⟩
  have hle : i ≤ s.size := by
    rw [hi]
    rcases Lib.lastIndexByte_spec s 58 with ⟨h, _⟩ | ⟨j, hj, h, _⟩ <;> rw [h] <;> omega
  obtain ⟨P, hP⟩ : ∃ P, P = parentF s := ⟨_, rfl⟩
  rw [← hP]
  have HP := Lib.hid hP
  clear hP
  rw [← hi] at hl
  have HI := Lib.hid hi
  clear hi
  by_cases h0 : i < 0
  · have e : P = none := by rw [HP.out]; unfold parentF; rw [if_neg (by rw [← HI.out]; omega)]
    subst e
    go_enter Tryd.func10, Tryd.ntmps10
    go_wp2_with (go_at_call 26; refine hl.mono ?_; rintro e w' ⟨rfl, rfl⟩)
    go_ret2
    exact ⟨rfl, Below.refl _ _⟩
  · cases hb : goodB s.data.toList with
    | false =>
      have e : P = none := by rw [HP.out]; unfold parentF; rw [if_neg (by rw [hb]; simp)]
      subst e
      rw [hb] at hg
      clear hb
      go_enter Tryd.func10, Tryd.ntmps10
      go_wp2_with (first | (go_at_call 26; refine hl.mono ?_; rintro e w' ⟨rfl, rfl⟩) | (go_at_call 27; refine (hg _).mono ?_; rintro e w' ⟨rfl, hbel⟩))
      go_ret2
      exact ⟨rfl, hbel⟩
    | true =>
      obtain ⟨k, rfl⟩ : ∃ k : Nat, i = k := ⟨i.toNat, by omega⟩
      have e : P = some (s.extract 0 k) := by rw [HP.out]; unfold parentF; rw [if_pos ⟨hb, by rw [← HI.out]; omega⟩, ← HI.out]; simp
      subst e
      rw [hb] at hg
      clear hb
      have hk : k ≤ s.size := by omega
      go_enter Tryd.func10, Tryd.ntmps10
      go_wp2_with (first | (go_at_call 26; refine hl.mono ?_; rintro e w' ⟨rfl, rfl⟩) | (go_at_call 27; refine (hg _).mono ?_; rintro e w' ⟨rfl, hbel⟩))
      go_ret2
      exact ⟨rfl, hbel⟩
end Go.Proofs.YthbiepgpflpfoaaDoor
