/- order (two accounts by name) and slices.BinarySearchFunc by it. -/
import Derived.Test.YthbiepgpflpfoaaDoorInsert
import Derived.Test.YthbiepgpflpfoaaDoorOrd
import Derived.Test.YthbiepgpflpfoaaDoorShelf
import Derived.BigQuiet
import Derived.Deep.QuietTactic
namespace Go.Proofs.YthbiepgpflpfoaaDoor
open Go.RowKit
set_option linter.unusedVariables false
set_option linter.unusedSimpArgs false

set_option maxRecDepth 100000 in
theorem order_any (na nb : Nat) (a b : ByteArray) (w : World) (ha : w.cell? ⟨na, 0, none⟩ = some (.string a)) (hb : w.cell? ⟨nb, 0, none⟩ = some (.string b)) :
    Calls Tryd.prog 58 #[.pointer (some ⟨na, 0, none⟩), .pointer (some ⟨nb, 0, none⟩)] w fun e w' => e = .returned (.int .i64 (cmpB a b)) ∧ ∃ q, w' = w.drewN q := by
  go_enter Tryd.func58, Tryd.ntmps58
  go_wp2
  go_quiet ((go_at_call 25; exact Calls.quiet_of_same (Tryd.strings_Compare a b _)))
  go_wp2
  go_ret
  exact ⟨rfl, _, rfl⟩

structure SearchRes (ns : List ByteArray) (t : ByteArray) (w : World) (e : Ending) (w' : World) : Prop where
  val : ∃ (i : Nat) (f : Bool), i ≤ ns.length ∧ (∀ j (hj : j < ns.length), j < i → cmpB ns[j] t < 0) ∧ (∀ j (hj : j < ns.length), i ≤ j → 0 ≤ cmpB ns[j] t) ∧ e = .returned (.tuple #[.int .i64 i, .bool f])
  drew : ∃ q, w' = w.drewN q

structure SearchInv (ns : List ByteArray) (t : ByteArray) (w : World) (i j : Value) (wr : World) (a b : Nat) : Prop where
  ab : a ≤ b
  bl : b ≤ ns.length
  ia : i = .int .i64 (a : Int)
  jb : j = .int .i64 (b : Int)
  lo : ∀ k (hk : k < ns.length), k < a → cmpB ns[k] t < 0
  hi : ∀ k (hk : k < ns.length), b ≤ k → 0 ≤ cmpB ns[k] t
  drew : ∃ q, wr = w.drewN q

set_option maxRecDepth 100000 in
set_option maxHeartbeats 2000000 in
theorem search_any (ns : List ByteArray) (nb : ByteArray → Nat) (A : Option Addr) (c tb : Nat) (t : ByteArray) (w : World) (hn : ns.length ≤ 100)
    (hA : ∀ j (hj : j < ns.length), ∃ ad, A = some ad ∧ w.cell? (ad.add j) = some (.pointer (some ⟨nb ns[j], 0, none⟩)))
    (hN : ∀ j (hj : j < ns.length), w.cell? ⟨nb ns[j], 0, none⟩ = some (.string ns[j])) (ht : w.cell? ⟨tb, 0, none⟩ = some (.string t))
    (hmono : ∀ i j (hi : i < ns.length) (hj : j < ns.length), i ≤ j → cmpB ns[j] t < 0 → cmpB ns[i] t < 0) :
    Calls Tryd.prog 57 #[.slice A ns.length c, .pointer (some ⟨tb, 0, none⟩), .func (.func 58) #[] #[]] w (SearchRes ns t w) := by
  have HA := Lib.hid hA
  have HN := Lib.hid hN
  have HT := Lib.hid ht
  have HM := Lib.hid hmono
  clear hA hN ht hmono
  go_enter Tryd.func57, Tryd.ntmps57
  go_wp2
  go_loopw [9, 10] (fun i j wr => ∃ a b, SearchInv ns t w i j wr a b) (fun i j _ => ((intOf j).toNat - (intOf i).toNat))
  case atStart => exact ⟨0, ns.length, Nat.zero_le _, Nat.le_refl _, rfl, rfl, fun _ _ h => absurd h (by omega), fun _ _ h => absurd h (by omega), 0, rfl⟩
  case round =>
    obtain ⟨a, b, hab, hbl, rfl, rfl, hlo, hhi, q, rfl⟩ := hrel
    have HLO := Lib.hid hlo
    have HHI := Lib.hid hhi
    clear hlo hhi
    by_cases hlt : a < b
    · obtain ⟨h, hh⟩ : ∃ h, h = (a + b) / 2 := ⟨_, rfl⟩
      have h1 : a ≤ h := by omega
      have h2 : h < b := by omega
      have hnl : h < ns.length := by omega
      obtain ⟨ad, rfl, hc0⟩ := HA.out h hnl
      have hnm := HN.out h hnl
      obtain ⟨s, hs⟩ : ∃ s, s = ns[h] := ⟨_, rfl⟩
      rw [← hs] at hc0 hnm
      have hcq : (w.drewN q).cell? (ad.add h) = some (.pointer (some ⟨nb s, 0, none⟩)) := hc0
      have hord := order_any (nb s) tb s t (w.drewN q) hnm HT.out
      have HS := Lib.hid hs
      have HH := Lib.hid hh
      clear hs hc0 hnm hh
      have eh : ((a : Int) + (b : Int)) / 2 = (h : Int) := by rw [HH.out]; omega
      by_cases hc : cmpB s t < 0
      · go_wp2_with (go_at_call 58; refine hord.mono ?_; rintro e w' ⟨rfl, q2, rfl⟩)
        go_roundw
        case rel => exact ⟨h + 1, b, by omega, hbl, by go_num, rfl, fun k hk hlt' => by
            have hm := HM.out k h hk hnl (by omega)
            rw [← HS.out] at hm
            exact hm hc, HHI.out, q + q2, rfl⟩
        case measure => simp only [intOf]; omega
      · go_wp2_with (go_at_call 58; refine hord.mono ?_; rintro e w' ⟨rfl, q2, rfl⟩)
        go_roundw
        case rel => exact ⟨a, h, by omega, by omega, rfl, rfl, HLO.out, fun k hk hle => by
            have hm := HM.out h k hnl hk hle
            rw [← HS.out] at hm
            omega, q + q2, rfl⟩
        case measure => simp only [intOf]; omega
    · obtain rfl : a = b := by omega
      by_cases hal : a < ns.length
      · obtain ⟨ad, rfl, hc0⟩ := HA.out a hal
        have hnm := HN.out a hal
        obtain ⟨s, hs⟩ : ∃ s, s = ns[a] := ⟨_, rfl⟩
        rw [← hs] at hc0 hnm
        have hcq : (w.drewN q).cell? (ad.add a) = some (.pointer (some ⟨nb s, 0, none⟩)) := hc0
        have hord := order_any (nb s) tb s t (w.drewN q) hnm HT.out
        have HS := Lib.hid hs
        clear hs hc0 hnm
        have hd : decide ((a : Int) < (ns.length : Int)) = true := decide_eq_true (by omega)
        go_wp2_with (go_at_call 58; refine hord.mono ?_; rintro e w' ⟨rfl, q2, rfl⟩)
        go_ret2
        exact ⟨⟨a, _, by omega, HLO.out, HHI.out, rfl⟩, q + q2, rfl⟩
      · have hd : decide ((a : Int) < (ns.length : Int)) = false := decide_eq_false (by omega)
        go_wp2_with fail
        go_ret2
        exact ⟨⟨a, _, by omega, HLO.out, HHI.out, rfl⟩, q, rfl⟩
end Go.Proofs.YthbiepgpflpfoaaDoor
