/- sum and SameRows. Printed by gen_sum.py. -/
import Derived.Test.YtgocoofcelggcaaGreatDoorPack14
import Derived.Deep.QuietTactic
namespace Go.Proofs.YtgocoofcelggcaaGreatDoor
open Go.RowKit
set_option linter.unusedVariables false
set_option linter.unusedSimpArgs false

structure TotInv (rs : List PostV) (w : World) (tot siz i : Value) (wr : World) (k : Nat) : Prop where
  le : k ≤ rs.length
  at_ : i = .int .i64 (k : Int)
  tot : tot = .int .i64 (sumAmt (rs.take k))
  siz : siz = .int .i64 (sumAbs (rs.take k))
  same : wr = w

set_option maxRecDepth 100000 in
set_option maxHeartbeats 4000000 in
theorem tot_any {w : World} {n c : Nat} {A : Option Addr} (rs : List PostV) (h : w.ownsRow n 39 9 (.slice A rs.length c) rs.length (rs.map encPost).flatten) (hl : rs.length ≤ 1048576) (ham : ∀ r ∈ rs, -maxA ≤ r.amount ∧ r.amount ≤ maxA) (hs : sumAbs rs ≤ maxA) :
    Calls Tryz.prog 26 #[.slice A rs.length c] w fun en w' => en = .returned (.tuple #[.int .i64 (sumAmt rs), .int .i64 (sumAbs rs), .bool true]) ∧ w' = w := by
  have HO := Lib.hid h
  have HAM := Lib.hid ham
  have HS := Lib.hid hs
  clear h ham hs
  go_enter Tryz.func26, Tryz.ntmps26
  go_wp2
  go_loopw [5, 6, 7] (fun tot siz i wr => ∃ k, TotInv rs w tot siz i wr k) (fun _ _ i _ => rs.length - (intOf i).toNat)
  case atStart => exact ⟨0, Nat.zero_le _, rfl, rfl, rfl, rfl⟩
  case round =>
    obtain ⟨k, hk, rfl, rfl, rfl, rfl⟩ := hrel
    by_cases hlt : k < rs.length
    · obtain ⟨ad, rfl, hab, hcs⟩ := row_read HO.out k hlt
      have hts := sumAbs_take rs k hlt
      have hta := sumAmt_take hlt
      have hax := HAM.out _ (List.getElem_mem hlt)
      have hnn := sumAbs_nonneg (rs.take k)
      have hle1 := sumAbs_le rs (k + 1)
      have hal := sumAmt_le (rs.take k)
      have hal1 := sumAmt_le (rs.take (k + 1))
      have hmx := HS.out
      have c6 : wr.cell? ⟨(ad.add (k * 9)).block, (ad.add (k * 9)).off + 6, none⟩ = some (.int .i64 rs[k].amount) := hcs 6 _ rfl
      obtain ⟨a, ha⟩ : ∃ a, a = rs[k].amount := ⟨_, rfl⟩
      rw [← ha] at hts hta hax c6
      obtain ⟨T, hT⟩ : ∃ T, T = sumAbs (rs.take k) := ⟨_, rfl⟩
      obtain ⟨U, hU⟩ : ∃ U, U = sumAmt (rs.take k) := ⟨_, rfl⟩
      rw [← hT] at hts hnn hal ⊢
      rw [← hU] at hta hal ⊢
      unfold maxA at hax hmx
      have HTS := Lib.hid hts
      have HTA := Lib.hid hta
      have hb0 : 0 ≤ absI a ∧ T + absI a ≤ 9223372036854775807 ∧ -9223372036854775807 ≤ U + a ∧ U + a ≤ 9223372036854775807 := by
        have := absI_nonneg a
        omega
      clear hts hta hcs ha hT hU hle1 hal hal1 hmx
      by_cases hn : a < 0
      · have hd : decide (a < 0) = true := decide_eq_true hn
        have hab' : absI a = -a := by unfold absI; rw [if_pos hn]
        rw [hab'] at hb0
        have hm : wrap64 (-a) = -a := by unfold wrap64; omega
        have hm' : IntKind.i64.wrap (-a) = -a := IntWalk.i64_in _ (by omega)
        have hq : decide (-a < 0) = false := decide_eq_false (by omega)
        have hw1 : wrap64 (9223372036854775807 - T) = 9223372036854775807 - T := by unfold wrap64; omega
        have hw1' : IntKind.i64.wrap (9223372036854775807 - T) = 9223372036854775807 - T := IntWalk.i64_in _ (by omega)
        have hg : decide (9223372036854775807 - T < -a) = false := decide_eq_false (by omega)
        have hw2 : wrap64 (T + -a) = T + -a := by unfold wrap64; omega
        have hw2' : IntKind.i64.wrap (T + -a) = T + -a := IntWalk.i64_in _ (by omega)
        have hw3 : wrap64 (U + a) = U + a := by unfold wrap64; omega
        have hw3' : IntKind.i64.wrap (U + a) = U + a := IntWalk.i64_in _ (by omega)
        have HAB := Lib.hid hab'
        clear hab'
        go_wp2
        go_roundw
        case rel => exact ⟨k + 1, by omega, by go_num, by rw [HTA.out], by rw [HTS.out, HAB.out], rfl⟩
        case measure => simp [intOf]; omega
      · have hd : decide (a < 0) = false := decide_eq_false hn
        have hab' : absI a = a := by unfold absI; rw [if_neg hn]
        rw [hab'] at hb0
        have hw1 : wrap64 (9223372036854775807 - T) = 9223372036854775807 - T := by unfold wrap64; omega
        have hw1' : IntKind.i64.wrap (9223372036854775807 - T) = 9223372036854775807 - T := IntWalk.i64_in _ (by omega)
        have hg : decide (9223372036854775807 - T < a) = false := decide_eq_false (by omega)
        have hw2 : wrap64 (T + a) = T + a := by unfold wrap64; omega
        have hw2' : IntKind.i64.wrap (T + a) = T + a := IntWalk.i64_in _ (by omega)
        have hw3 : wrap64 (U + a) = U + a := by unfold wrap64; omega
        have hw3' : IntKind.i64.wrap (U + a) = U + a := IntWalk.i64_in _ (by omega)
        have HAB := Lib.hid hab'
        clear hab'
        go_wp2
        go_roundw
        case rel => exact ⟨k + 1, by omega, by go_num, by rw [HTA.out], by rw [HTS.out, HAB.out], rfl⟩
        case measure => simp [intOf]; omega
    · obtain rfl : k = rs.length := by omega
      rw [List.take_length]
      go_wp2
      go_ret3
      exact ⟨rfl, rfl⟩

set_option maxRecDepth 100000 in
set_option maxHeartbeats 4000000 in
theorem sameRows_any {w : World} {n n' c c' : Nat} {A A' : Option Addr} (rs : List PostV) (h : w.ownsRow n 39 9 (.slice A rs.length c) rs.length (rs.map encPost).flatten) (h' : w.ownsRow n' 39 9 (.slice A' rs.length c') rs.length (rs.map encPost).flatten) (hl : rs.length ≤ 1048576) :
    Calls Tryz.prog 27 #[.slice A rs.length c, .slice A' rs.length c'] w fun en w' => en = .returned (.bool true) ∧ Below w.heap.size w w' := by
  have HO := Lib.hid h
  have HO' := Lib.hid h'
  clear h h'
  go_enter Tryz.func27, Tryz.ntmps27
  go_wp2
  go_loopw [5] (fun i wr => ∃ k : Nat, i = .int .i64 (k : Int) ∧ k ≤ rs.length ∧ Below w.heap.size w wr) (fun i _ => rs.length - (intOf i).toNat)
  case atStart => exact ⟨0, rfl, Nat.zero_le _, Below.refl _ _⟩
  case round =>
    obtain ⟨k, rfl, hk, hbel⟩ := hrel
    by_cases hlt : k < rs.length
    · obtain ⟨ad, rfl, hab, hcs⟩ := row_read (own_below HO.out hbel) k hlt
      obtain ⟨ad', rfl, hab', hcs'⟩ := row_read (own_below HO'.out hbel) k hlt
      obtain ⟨r, hr⟩ : ∃ r, r = rs[k] := ⟨_, rfl⟩
      rw [← hr] at hcs hcs'
      have c0 : wr.cell? (ad.add (k * 9)) = some (.int .i64 r.seq) := hcs 0 _ rfl
      have c1 : wr.cell? ⟨(ad.add (k * 9)).block, (ad.add (k * 9)).off + 1, none⟩ = some (.int .i64 r.line) := hcs 1 _ rfl
      have c2 : wr.cell? ⟨(ad.add (k * 9)).block, (ad.add (k * 9)).off + 2, none⟩ = some (.int .i64 r.day) := hcs 2 _ rfl
      have c3 : wr.cell? ⟨(ad.add (k * 9)).block, (ad.add (k * 9)).off + 3, none⟩ = some (.int .i64 r.kind) := hcs 3 _ rfl
      have c4 : wr.cell? ⟨(ad.add (k * 9)).block, (ad.add (k * 9)).off + 4, none⟩ = some (.string r.key) := hcs 4 _ rfl
      have c5 : wr.cell? ⟨(ad.add (k * 9)).block, (ad.add (k * 9)).off + 5, none⟩ = some (.string r.account) := hcs 5 _ rfl
      have c6 : wr.cell? ⟨(ad.add (k * 9)).block, (ad.add (k * 9)).off + 6, none⟩ = some (.int .i64 r.amount) := hcs 6 _ rfl
      have c7 : wr.cell? ⟨(ad.add (k * 9)).block, (ad.add (k * 9)).off + 7, none⟩ = some (.string r.tag) := hcs 7 _ rfl
      have c8 : wr.cell? ⟨(ad.add (k * 9)).block, (ad.add (k * 9)).off + 8, none⟩ = some (.string r.memo) := hcs 8 _ rfl
      have d0 : wr.cell? (ad'.add (k * 9)) = some (.int .i64 r.seq) := hcs' 0 _ rfl
      have d1 : wr.cell? ⟨(ad'.add (k * 9)).block, (ad'.add (k * 9)).off + 1, none⟩ = some (.int .i64 r.line) := hcs' 1 _ rfl
      have d2 : wr.cell? ⟨(ad'.add (k * 9)).block, (ad'.add (k * 9)).off + 2, none⟩ = some (.int .i64 r.day) := hcs' 2 _ rfl
      have d3 : wr.cell? ⟨(ad'.add (k * 9)).block, (ad'.add (k * 9)).off + 3, none⟩ = some (.int .i64 r.kind) := hcs' 3 _ rfl
      have d4 : wr.cell? ⟨(ad'.add (k * 9)).block, (ad'.add (k * 9)).off + 4, none⟩ = some (.string r.key) := hcs' 4 _ rfl
      have d5 : wr.cell? ⟨(ad'.add (k * 9)).block, (ad'.add (k * 9)).off + 5, none⟩ = some (.string r.account) := hcs' 5 _ rfl
      have d6 : wr.cell? ⟨(ad'.add (k * 9)).block, (ad'.add (k * 9)).off + 6, none⟩ = some (.int .i64 r.amount) := hcs' 6 _ rfl
      have d7 : wr.cell? ⟨(ad'.add (k * 9)).block, (ad'.add (k * 9)).off + 7, none⟩ = some (.string r.tag) := hcs' 7 _ rfl
      have d8 : wr.cell? ⟨(ad'.add (k * 9)).block, (ad'.add (k * 9)).off + 8, none⟩ = some (.string r.memo) := hcs' 8 _ rfl
      clear hcs hcs' hr
      go_wp2
      go_quiet (fail)
      have HB := Lib.hid (below_drewN hbel nq)
      go_wp2
      go_roundw
      case rel => exact ⟨k + 1, by go_num, by omega, HB.out⟩
      case measure => simp [intOf]; omega
    · have HB := Lib.hid hbel
      clear hbel
      go_wp2
      go_ret
      exact ⟨rfl, HB.out⟩
end Go.Proofs.YtgocoofcelggcaaGreatDoor
