/- Contracts of the functions on names: part, Good; the world is as it was, or has grown. -/
import Derived.Test.YthbiepgpflpfoaaDoorBase
import Derived.Test.YthbiepgpflpfoaaDoorStr
namespace Go.Proofs.YthbiepgpflpfoaaDoor
open Go.RowKit
set_option linter.unusedVariables false
set_option linter.unusedSimpArgs false

theorem part_false (s : ByteArray) (h : ¬ (1 ≤ s.size ∧ s.size ≤ 16)) : partB s.data.toList = false := by
  rw [Bool.eq_false_iff]
  intro e
  obtain ⟨h1, ⟨c, r, h2, _⟩, _⟩ := (partB_iff _).1 e
  rw [data_len] at h1
  have := congrArg List.length h2
  rw [data_len] at this
  simp at this
  omega
theorem part_false_up (s : ByteArray) (h1 : 1 ≤ s.size) (h : ¬ upP s[0]) : partB s.data.toList = false := by
  rw [Bool.eq_false_iff]
  intro e
  obtain ⟨_, ⟨c, r, h2, h3⟩, _⟩ := (partB_iff _).1 e
  have e0 := data_get s 0 h1
  simp only [h2, List.getElem_cons_zero] at e0
  subst e0
  exact h h3
theorem part_false_name (s : ByteArray) (k : Nat) (hk : k < s.size) (h : ¬ nameP s[k]) : partB s.data.toList = false := by
  rw [Bool.eq_false_iff]
  intro e
  obtain ⟨_, _, h3⟩ := (partB_iff _).1 e
  apply h
  rw [← data_get s k hk]
  exact h3 _ (List.getElem_mem _)
theorem part_true (s : ByteArray) (h1 : 1 ≤ s.size) (h2 : s.size ≤ 16) (hu : upP s[0]) (h : ∀ k (hk : k < s.size), nameP s[k]) : partB s.data.toList = true := by
  rw [partB_iff, data_len]
  refine ⟨h2, ?_, ?_⟩
  · have hl : 0 < s.data.toList.length := by rw [data_len]; exact h1
    refine ⟨s.data.toList[0], s.data.toList.drop 1, ?_, hu⟩
    rw [List.getElem_cons_drop]; rfl
  · intro c hc
    obtain ⟨k, hk, rfl⟩ := List.getElem_of_mem hc
    exact h k (by rw [data_len] at hk; exact hk)

structure PartInv (s : ByteArray) (i : Value) (k : Nat) : Prop where
  le : k ≤ s.size
  at_ : i = .int .i64 (k : Int)
  all : ∀ j (hj : j < s.size), j < k → nameP s[j]

set_option maxHeartbeats 2000000 in
theorem part_any (s : ByteArray) (w : World) (hm : s.size ≤ maxLen) :
    Calls Tryd.prog 40 #[.string s] w fun e w' => e = .returned (.bool (partB s.data.toList)) ∧ w = w' := by
  unfold maxLen at hm
  by_cases hs : 1 ≤ s.size ∧ s.size ≤ 16
  · obtain ⟨h1, h2⟩ := hs
    have h' : ¬ ((s.size : Int) < 1) := by omega
    have h'' : ¬ ((16 : Int) < s.size) := by omega
    by_cases hu : upP s[0]
    · have HU := Lib.hid hu
      unfold upP at hu
      have ha : 65 ≤ ((s[0]).toNat : Int) := by omega
      have hb : ((s[0]).toNat : Int) ≤ 90 := by omega
      clear hu
      obtain ⟨R, hR⟩ : ∃ R : Bool, R = partB s.data.toList := ⟨_, rfl⟩
      rw [← hR]
      have HR := Lib.hid hR
      clear hR
      go_enter Tryd.func40, Tryd.ntmps40
      go_wp2
      go_loop [25] (fun i => ∃ k : Nat, PartInv s i k) (fun i => s.size - (intOf i).toNat)
      case atStart => exact ⟨0, Nat.zero_le _, rfl, fun _ _ h => absurd h (by omega)⟩
      case round =>
        obtain ⟨k, hk, rfl, hall⟩ := hrel
        have HA := Lib.hid hall
        clear hall
        by_cases hlt : k < s.size
        · have hc : (65 ≤ (s[k].toNat : Int) ∧ (s[k].toNat : Int) ≤ 90) ∨ (97 ≤ (s[k].toNat : Int) ∧ (s[k].toNat : Int) ≤ 122) ∨ (48 ≤ (s[k].toNat : Int) ∧ (s[k].toNat : Int) ≤ 57) ∨ (s[k].toNat : Int) = 45 ∨ ¬ nameP s[k] := by
            unfold nameP; omega
          have fin : nameP s[k] → PartInv s (.int .i64 ((k : Int) + 1)) (k + 1) := fun hn => ⟨by omega, by simp, fun j hj hjk => by
            by_cases e : j = k
            · subst e; exact hn
            · exact HA.out j hj (by omega)⟩
          have FIN := Lib.hid fin
          clear fin
          rcases hc with ⟨a, b⟩ | ⟨a, b⟩ | ⟨a, b⟩ | a | hno
          · have hn : Hid (nameP s[k]) := by show nameP _; unfold nameP; omega
            go_wp2
            go_round
            case rel => exact ⟨k + 1, FIN.out hn.out⟩
            case measure => simp [intOf]; omega
          · have hn : Hid (nameP s[k]) := by show nameP _; unfold nameP; omega
            go_wp2
            go_round
            case rel => exact ⟨k + 1, FIN.out hn.out⟩
            case measure => simp [intOf]; omega
          · have hn : Hid (nameP s[k]) := by show nameP _; unfold nameP; omega
            go_wp2
            go_round
            case rel => exact ⟨k + 1, FIN.out hn.out⟩
            case measure => simp [intOf]; omega
          · have hn : Hid (nameP s[k]) := by show nameP _; unfold nameP; omega
            go_wp2
            go_round
            case rel => exact ⟨k + 1, FIN.out hn.out⟩
            case measure => simp [intOf]; omega
          · have hf := part_false_name s k hlt hno
            have HF : Hid (R = false) := by show R = false; rw [HR.out, hf]
            clear hf
            have hb : ((s[k].toNat : Int) == 45) = false := by
              rw [beq_eq_false_iff_ne]
              intro e
              exact hno (by unfold nameP; omega)
            have hno' : (s[k].toNat : Int) < 48 ∨ (57 < (s[k].toNat : Int) ∧ (s[k].toNat : Int) < 65) ∨ (90 < (s[k].toNat : Int) ∧ (s[k].toNat : Int) < 97) ∨ 122 < (s[k].toNat : Int) := by
              unfold nameP at hno; omega
            clear hno
            rcases hno' with a | ⟨a, b⟩ | ⟨a, b⟩ | a
            all_goals
              go_wp2
              all_goals first | (go_ret; rw [HF.out]; exact ⟨rfl, rfl⟩) | (exfalso; simp at *; omega)
        · have ht := part_true s h1 h2 HU.out (fun j hj => HA.out j hj (by omega))
          have HT : Hid (R = true) := by show R = true; rw [HR.out, ht]
          clear ht
          go_wp2
          go_ret
          rw [HT.out]
          exact ⟨rfl, rfl⟩
    · rw [part_false_up s h1 hu]
      unfold upP at hu
      by_cases ha : ((s[0]).toNat : Int) < 65
      · clear hu
        go_enter Tryd.func40, Tryd.ntmps40
        go_wp2
        go_ret
        exact ⟨rfl, rfl⟩
      · have hb : 90 < ((s[0]).toNat : Int) := by omega
        clear hu
        go_enter Tryd.func40, Tryd.ntmps40
        go_wp2
        go_ret
        exact ⟨rfl, rfl⟩
  · rw [part_false s hs]
    by_cases h : (s.size : Int) < 1
    · go_enter Tryd.func40, Tryd.ntmps40
      go_wp2
      go_ret
      exact ⟨rfl, rfl⟩
    · have h' : ((16 : Int) < s.size) := by omega
      go_enter Tryd.func40, Tryd.ntmps40
      go_wp2
      go_ret
      exact ⟨rfl, rfl⟩
end Go.Proofs.YthbiepgpflpfoaaDoor
