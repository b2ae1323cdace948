/- daybookref05, daybookref06: names; daybookref06: Parent, Root, Under; lists of texts alike; daybookkeep: a list of texts is written over. Printed by gen_keepfill.py; daybookkeep: a list of texts is appended to. Printed by gen_keepfill.py. -/
import Derived.Test.YtplocldnklccfaaGreatDoorPack4
import Derived.Test.YtplocldnklccfaaGreatDoorPack1
import Derived.Deep.QuietTactic
import Derived.Test.YtplocldnklccfaaGreatDoorPack2
namespace Go.Proofs.YtplocldnklccfaaGreatDoor
theorem qa5 {T : Type} (l : List T) (i : Nat) (a : T) : l.toArray.setIfInBounds i a = (l.set i a).toArray := List.setIfInBounds_toArray l i a
theorem qb5 {T : Type} {x : T} {xs : List T} {a : T} : (x :: xs).set 0 a = a :: xs := List.set_cons_zero
theorem qc5 {T : Type} {x : T} {xs : List T} {i : Nat} {a : T} : (x :: xs).set (i + 1) a = x :: xs.set i a := List.set_cons_succ
theorem qd5 {T : Type} {xs : List T} {i : Nat} (h : i < xs.toArray.size) : xs.toArray[i] = xs[i]'(by simpa using h) := List.getElem_toArray h
theorem qe5 {T : Type} (a : T) (ys : List T) (i : Nat) (h : i + 1 < (a :: ys).length) : (a :: ys)[i + 1] = ys[i]'(by simpa using h) := List.getElem_cons_succ a ys i h
theorem qf5 {T : Type} (a : T) (ys : List T) (h : 0 < (a :: ys).length) : (a :: ys)[0] = a := List.getElem_cons_zero a ys h
open Go.RowKit Go.Shelf
set_option linter.unusedVariables false
set_option linter.unusedSimpArgs false

/-! ### The scan, step by step -/
theorem scan_colon (p z : Nat) (r : List UInt8) : scanN p z (58 :: r) = if z = 0 then false else scanN (p + 1) 0 r := by
  show (if (58 : UInt8) = 58 then _ else _) = _
  rw [if_pos rfl]
theorem scan_bad {p z : Nat} {c : UInt8} (r : List UInt8) (hc : c ≠ 58) (h : (z = 0 ∧ ¬ upP c) ∨ ¬ nameP c) : scanN p z (c :: r) = false := by
  show (if c = 58 then _ else _) = _
  rw [if_neg hc, if_pos h]
theorem scan_long {p z : Nat} {c : UInt8} (r : List UInt8) (hc : c ≠ 58) (hz : 16 < z + 1) : scanN p z (c :: r) = false := by
  show (if c = 58 then _ else _) = _
  rw [if_neg hc]
  split
  · rfl
  · first | rfl | rw [if_pos hz]
theorem scan_ok {p z : Nat} {c : UInt8} (r : List UInt8) (hc : c ≠ 58) (h : ¬ ((z = 0 ∧ ¬ upP c) ∨ ¬ nameP c)) (hz : ¬ 16 < z + 1) : scanN p z (c :: r) = scanN p (z + 1) r := by
  conv => lhs; unfold scanN
  rw [if_neg hc, if_neg h, if_neg hz]
def lowP (c : UInt8) : Prop := 97 ≤ c.toNat ∧ c.toNat ≤ 122
def digP (c : UInt8) : Prop := 48 ≤ c.toNat ∧ c.toNat ≤ 57
instance (c : UInt8) : Decidable (lowP c) := by unfold lowP; infer_instance
instance (c : UInt8) : Decidable (digP c) := by unfold digP; infer_instance
theorem name_iff (c : UInt8) : nameP c ↔ upP c ∨ lowP c ∨ digP c ∨ c.toNat = 45 := Iff.rfl

theorem upper_any (c : UInt8) (w : World) : Calls Tryz.prog 80 #[.int .u8 (c.toNat : Int)] w fun e w' => e = .returned (.bool (decide (upP c))) ∧ w' = w := by
  have hd : decide (upP c) = (decide ((65 : Int) ≤ (c.toNat : Int)) && decide ((c.toNat : Int) ≤ 90)) := by
    have e : upP c ↔ ((65 : Int) ≤ (c.toNat : Int) ∧ (c.toNat : Int) ≤ 90) := by unfold upP; omega
    rw [← Bool.decide_and]
    exact decide_eq_decide.2 e
  rw [hd]
  by_cases h1 : (65 : Int) ≤ (c.toNat : Int)
  · by_cases h2 : (c.toNat : Int) ≤ 90
    · rw [decide_eq_true h1, decide_eq_true h2]
      clear hd
      go_enter Tryz.func80, Tryz.ntmps80
      go_wp2
      go_ret
      exact ⟨rfl, rfl⟩
    · rw [decide_eq_false h2, Bool.and_false]
      clear hd
      go_enter Tryz.func80, Tryz.ntmps80
      go_wp2
      go_ret
      exact ⟨rfl, rfl⟩
  · rw [decide_eq_false h1, Bool.false_and]
    clear hd
    go_enter Tryz.func80, Tryz.ntmps80
    go_wp2
    go_ret
    exact ⟨rfl, rfl⟩
theorem lower_any (c : UInt8) (w : World) : Calls Tryz.prog 81 #[.int .u8 (c.toNat : Int)] w fun e w' => e = .returned (.bool (decide (lowP c))) ∧ w' = w := by
  have hd : decide (lowP c) = (decide ((97 : Int) ≤ (c.toNat : Int)) && decide ((c.toNat : Int) ≤ 122)) := by
    have e : lowP c ↔ ((97 : Int) ≤ (c.toNat : Int) ∧ (c.toNat : Int) ≤ 122) := by unfold lowP; omega
    rw [← Bool.decide_and]
    exact decide_eq_decide.2 e
  rw [hd]
  by_cases h1 : (97 : Int) ≤ (c.toNat : Int)
  · by_cases h2 : (c.toNat : Int) ≤ 122
    · rw [decide_eq_true h1, decide_eq_true h2]
      clear hd
      go_enter Tryz.func81, Tryz.ntmps81
      go_wp2
      go_ret
      exact ⟨rfl, rfl⟩
    · rw [decide_eq_false h2, Bool.and_false]
      clear hd
      go_enter Tryz.func81, Tryz.ntmps81
      go_wp2
      go_ret
      exact ⟨rfl, rfl⟩
  · rw [decide_eq_false h1, Bool.false_and]
    clear hd
    go_enter Tryz.func81, Tryz.ntmps81
    go_wp2
    go_ret
    exact ⟨rfl, rfl⟩
theorem digit_any (c : UInt8) (w : World) : Calls Tryz.prog 82 #[.int .u8 (c.toNat : Int)] w fun e w' => e = .returned (.bool (decide (digP c))) ∧ w' = w := by
  have hd : decide (digP c) = (decide ((48 : Int) ≤ (c.toNat : Int)) && decide ((c.toNat : Int) ≤ 57)) := by
    have e : digP c ↔ ((48 : Int) ≤ (c.toNat : Int) ∧ (c.toNat : Int) ≤ 57) := by unfold digP; omega
    rw [← Bool.decide_and]
    exact decide_eq_decide.2 e
  rw [hd]
  by_cases h1 : (48 : Int) ≤ (c.toNat : Int)
  · by_cases h2 : (c.toNat : Int) ≤ 57
    · rw [decide_eq_true h1, decide_eq_true h2]
      clear hd
      go_enter Tryz.func82, Tryz.ntmps82
      go_wp2
      go_ret
      exact ⟨rfl, rfl⟩
    · rw [decide_eq_false h2, Bool.and_false]
      clear hd
      go_enter Tryz.func82, Tryz.ntmps82
      go_wp2
      go_ret
      exact ⟨rfl, rfl⟩
  · rw [decide_eq_false h1, Bool.false_and]
    clear hd
    go_enter Tryz.func82, Tryz.ntmps82
    go_wp2
    go_ret
    exact ⟨rfl, rfl⟩

theorem drop_at (s : ByteArray) (k : Nat) (hk : k < s.size) : s.data.toList.drop k = s[k] :: s.data.toList.drop (k + 1) := by
  have hl : k < s.data.toList.length := by rw [data_len]; exact hk
  rw [List.drop_eq_getElem_cons hl, data_get s k hk]
structure NameInv (s : ByteArray) (w : World) (pv zv iv : Value) (wr : World) (k p z : Nat) : Prop where
  le : k ≤ s.size
  ei : iv = .int .i64 (k : Int)
  ep : pv = .int .i64 (p : Int)
  ez : zv = .int .i64 (z : Int)
  pk : p ≤ k + 1
  z16 : z ≤ 16
  scan : scanN p z (s.data.toList.drop k) = scanN 1 0 s.data.toList
  same : wr = w
theorem name_nums (n k p z : Nat) (hs : n ≤ 1048576) (hlt : k < n) (hpk : p ≤ k + 1) (hz : z ≤ 16) : n - ((k : Int) + 1).toNat < n - k ∧ wrap64 ((k : Int) + 1) = (k : Int) + 1 ∧ IntKind.i64.wrap ((k : Int) + 1) = (k : Int) + 1 ∧
    wrap64 ((p : Int) + 1) = (p : Int) + 1 ∧ IntKind.i64.wrap ((p : Int) + 1) = (p : Int) + 1 ∧ wrap64 ((z : Int) + 1) = (z : Int) + 1 ∧ IntKind.i64.wrap ((z : Int) + 1) = (z : Int) + 1 := by
  refine ⟨by omega, by unfold wrap64; omega, IntWalk.i64_in _ (by omega), by unfold wrap64; omega, IntWalk.i64_in _ (by omega), by unfold wrap64; omega, IntWalk.i64_in _ (by omega)⟩
theorem byte_ne {c d : UInt8} (h : c ≠ d) : ((c.toNat : Int) == (d.toNat : Int)) = false := by
  rw [beq_eq_false_iff_ne]
  intro e
  exact h (UInt8.toNat_inj.1 (by omega))
theorem not_name {c : UInt8} (h1 : ¬ upP c) (h2 : ¬ lowP c) (h3 : ¬ digP c) (h4 : c ≠ 45) : ¬ nameP c := by
  intro h
  rcases (name_iff c).1 h with h | h | h | h
  · exact h1 h
  · exact h2 h
  · exact h3 h
  · exact h4 (UInt8.toNat_inj.1 h)
set_option maxRecDepth 100000 in
set_option maxHeartbeats 8000000 in
theorem refName_any (s : ByteArray) (w : World) (hs : s.size ≤ 1048576) :
    Calls Tryz.prog 25 #[.string s] w fun e w' => e = .returned (.bool (goodB s.data.toList)) ∧ w' = w := by
  obtain ⟨R, hR⟩ : ∃ R, R = goodB s.data.toList := ⟨_, rfl⟩
  rw [← hR]
  rw [← scan_good] at hR
  have HR := Lib.hid hR
  clear hR
  go_enter Tryz.func25, Tryz.ntmps25
  go_wp2
  go_loopw [3, 4, 5] (fun pv zv iv wr => ∃ k p z, NameInv s w pv zv iv wr k p z) (fun _ _ iv _ => s.size - (intOf iv).toNat)
  case atStart => exact ⟨0, 1, 0, Nat.zero_le _, rfl, rfl, rfl, Nat.le_refl _, Nat.zero_le _, by rw [List.drop_zero], rfl⟩
  case round =>
    obtain ⟨k, p, z, hk, rfl, rfl, rfl, hpk, hz16, hsc, hsame⟩ := hrel
    obtain rfl := hsame.symm
    by_cases hlt : k < s.size
    · have hd := drop_at s k hlt
      have HSD := Lib.hid (show scanN p z (s[k] :: s.data.toList.drop (k + 1)) = R by rw [← hd, HR.out]; exact hsc)
      obtain ⟨U, hU⟩ : ∃ U, U = decide (upP s[k]) := ⟨_, rfl⟩
      obtain ⟨L, hL⟩ : ∃ U, U = decide (lowP s[k]) := ⟨_, rfl⟩
      obtain ⟨D, hD⟩ : ∃ U, U = decide (digP s[k]) := ⟨_, rfl⟩
      have hup := fun W => upper_any s[k] W
      have hlo := fun W => lower_any s[k] W
      have hdi := fun W => digit_any s[k] W
      rw [← hU] at hup
      rw [← hL] at hlo
      rw [← hD] at hdi
      have HUU := Lib.hid hU
      have HLL := Lib.hid hL
      have HDD := Lib.hid hD
      obtain ⟨hmu, hw1, hw1', hw2, hw2', hw3, hw3'⟩ := name_nums s.size k p z hs hlt hpk hz16
      have HN := Lib.hid (And.intro hlt (And.intro hpk hz16))
      clear hd hsc hU hL hD hpk hz16 hk
      by_cases h58 : s[k] = 58
      · have b58 : ((s[k].toNat : Int) == 58) = true := by rw [h58]; rfl
        have H58 := Lib.hid h58
        clear h58
        by_cases hz : z = 0
        · subst hz
          have hf : Hid (R = false) := Lib.hid (by rw [← HSD.out]; exact by rw [H58.out, scan_colon, if_pos rfl])
          as_aux_lemma =>
            go_wp2_with (first
              | (go_at_call 80; refine (hup _).mono ?_; rintro e w' ⟨rfl, hw⟩; obtain rfl := hw.symm)
              | (go_at_call 81; refine (hlo _).mono ?_; rintro e w' ⟨rfl, hw⟩; obtain rfl := hw.symm)
              | (go_at_call 82; refine (hdi _).mono ?_; rintro e w' ⟨rfl, hw⟩; obtain rfl := hw.symm))
            go_ret
            rw [hf.out]
            exact ⟨rfl, rfl⟩
        · have bz : ((z : Int) == 0) = false := by simpa using hz
          have HZ := Lib.hid hz
          clear hz
          have hf : Hid (scanN (p + 1) 0 (s.data.toList.drop (k + 1)) = scanN 1 0 s.data.toList) := Lib.hid (by rw [← HR.out, ← HSD.out]; exact Eq.symm (by rw [H58.out, scan_colon, if_neg HZ.out]))
          as_aux_lemma =>
            go_wp2_with (first
              | (go_at_call 80; refine (hup _).mono ?_; rintro e w' ⟨rfl, hw⟩; obtain rfl := hw.symm)
              | (go_at_call 81; refine (hlo _).mono ?_; rintro e w' ⟨rfl, hw⟩; obtain rfl := hw.symm)
              | (go_at_call 82; refine (hdi _).mono ?_; rintro e w' ⟨rfl, hw⟩; obtain rfl := hw.symm))
            go_roundw
            case rel => exact ⟨k + 1, p + 1, 0, Nat.succ_le_of_lt HN.out.1, by go_num, by go_num, by go_num, by have := HN.out.2.1; omega, Nat.zero_le _, hf.out, rfl⟩
            case measure => simpa [intOf] using hmu
      · have b58 : ((s[k].toNat : Int) == 58) = false := byte_ne h58
        have H58 := Lib.hid h58
        clear h58
        by_cases hz : z = 0
        · subst hz
          cases U with
          | false =>
            have hf : Hid (R = false) := Lib.hid (by rw [← HSD.out]; exact scan_bad _ H58.out (.inl ⟨rfl, of_decide_eq_false HUU.out.symm⟩))
            as_aux_lemma =>
              go_wp2_with (first
                | (go_at_call 80; refine (hup _).mono ?_; rintro e w' ⟨rfl, hw⟩; obtain rfl := hw.symm)
                | (go_at_call 81; refine (hlo _).mono ?_; rintro e w' ⟨rfl, hw⟩; obtain rfl := hw.symm)
                | (go_at_call 82; refine (hdi _).mono ?_; rintro e w' ⟨rfl, hw⟩; obtain rfl := hw.symm))
              go_ret
              rw [hf.out]
              exact ⟨rfl, rfl⟩
          | true =>
            have hf : Hid (scanN p (0 + 1) (s.data.toList.drop (k + 1)) = scanN 1 0 s.data.toList) := Lib.hid (by rw [← HR.out, ← HSD.out]; exact (scan_ok _ H58.out (fun h => by rcases h with ⟨_, h⟩ | h; exact h (of_decide_eq_true HUU.out.symm); exact h (up_name (of_decide_eq_true HUU.out.symm))) (by omega)).symm)
            as_aux_lemma =>
              go_wp2_with (first
                | (go_at_call 80; refine (hup _).mono ?_; rintro e w' ⟨rfl, hw⟩; obtain rfl := hw.symm)
                | (go_at_call 81; refine (hlo _).mono ?_; rintro e w' ⟨rfl, hw⟩; obtain rfl := hw.symm)
                | (go_at_call 82; refine (hdi _).mono ?_; rintro e w' ⟨rfl, hw⟩; obtain rfl := hw.symm))
              go_roundw
              case rel => exact ⟨k + 1, p, 0 + 1, Nat.succ_le_of_lt HN.out.1, by go_num, by go_num, by go_num, by have := HN.out.2.1; omega, by omega, hf.out, rfl⟩
              case measure => simpa [intOf] using hmu
        · have bz : ((z : Int) == 0) = false := by simpa using hz
          have HZ := Lib.hid hz
          clear hz
          by_cases h16 : 16 < z + 1
          · have h16' : (16 : Int) < (z : Int) + 1 := by omega
            have H16 := Lib.hid h16
            clear h16
            cases U with
            | true =>
              have hf : Hid (R = false) := Lib.hid (by rw [← HSD.out]; exact scan_long _ H58.out H16.out)
              as_aux_lemma =>
                go_wp2_with (first
                  | (go_at_call 80; refine (hup _).mono ?_; rintro e w' ⟨rfl, hw⟩; obtain rfl := hw.symm)
                  | (go_at_call 81; refine (hlo _).mono ?_; rintro e w' ⟨rfl, hw⟩; obtain rfl := hw.symm)
                  | (go_at_call 82; refine (hdi _).mono ?_; rintro e w' ⟨rfl, hw⟩; obtain rfl := hw.symm))
                go_ret
                rw [hf.out]
                exact ⟨rfl, rfl⟩
            | false =>
              cases L with
              | true =>
                have hf : Hid (R = false) := Lib.hid (by rw [← HSD.out]; exact scan_long _ H58.out H16.out)
                as_aux_lemma =>
                  go_wp2_with (first
                    | (go_at_call 80; refine (hup _).mono ?_; rintro e w' ⟨rfl, hw⟩; obtain rfl := hw.symm)
                    | (go_at_call 81; refine (hlo _).mono ?_; rintro e w' ⟨rfl, hw⟩; obtain rfl := hw.symm)
                    | (go_at_call 82; refine (hdi _).mono ?_; rintro e w' ⟨rfl, hw⟩; obtain rfl := hw.symm))
                  go_ret
                  rw [hf.out]
                  exact ⟨rfl, rfl⟩
              | false =>
                cases D with
                | true =>
                  have hf : Hid (R = false) := Lib.hid (by rw [← HSD.out]; exact scan_long _ H58.out H16.out)
                  as_aux_lemma =>
                    go_wp2_with (first
                      | (go_at_call 80; refine (hup _).mono ?_; rintro e w' ⟨rfl, hw⟩; obtain rfl := hw.symm)
                      | (go_at_call 81; refine (hlo _).mono ?_; rintro e w' ⟨rfl, hw⟩; obtain rfl := hw.symm)
                      | (go_at_call 82; refine (hdi _).mono ?_; rintro e w' ⟨rfl, hw⟩; obtain rfl := hw.symm))
                    go_ret
                    rw [hf.out]
                    exact ⟨rfl, rfl⟩
                | false =>
                  by_cases h45 : s[k] = 45
                  · have b45 : ((s[k].toNat : Int) == 45) = true := by rw [h45]; rfl
                    clear h45
                    have hf : Hid (R = false) := Lib.hid (by rw [← HSD.out]; exact scan_long _ H58.out H16.out)
                    as_aux_lemma =>
                      go_wp2_with (first
                        | (go_at_call 80; refine (hup _).mono ?_; rintro e w' ⟨rfl, hw⟩; obtain rfl := hw.symm)
                        | (go_at_call 81; refine (hlo _).mono ?_; rintro e w' ⟨rfl, hw⟩; obtain rfl := hw.symm)
                        | (go_at_call 82; refine (hdi _).mono ?_; rintro e w' ⟨rfl, hw⟩; obtain rfl := hw.symm))
                      go_ret
                      rw [hf.out]
                      exact ⟨rfl, rfl⟩
                  · have b45 : ((s[k].toNat : Int) == 45) = false := byte_ne h45
                    have H45 := Lib.hid h45
                    clear h45
                    have hf : Hid (R = false) := Lib.hid (by rw [← HSD.out]; exact scan_bad _ H58.out (.inr (not_name (of_decide_eq_false HUU.out.symm) (of_decide_eq_false HLL.out.symm) (of_decide_eq_false HDD.out.symm) H45.out)))
                    as_aux_lemma =>
                      go_wp2_with (first
                        | (go_at_call 80; refine (hup _).mono ?_; rintro e w' ⟨rfl, hw⟩; obtain rfl := hw.symm)
                        | (go_at_call 81; refine (hlo _).mono ?_; rintro e w' ⟨rfl, hw⟩; obtain rfl := hw.symm)
                        | (go_at_call 82; refine (hdi _).mono ?_; rintro e w' ⟨rfl, hw⟩; obtain rfl := hw.symm))
                      go_ret
                      rw [hf.out]
                      exact ⟨rfl, rfl⟩
          · have h16' : ¬ (16 : Int) < (z : Int) + 1 := by omega
            have H16 := Lib.hid h16
            clear h16
            cases U with
            | true =>
              have hf : Hid (scanN p (z + 1) (s.data.toList.drop (k + 1)) = scanN 1 0 s.data.toList) := Lib.hid (by rw [← HR.out, ← HSD.out]; exact (scan_ok _ H58.out (fun h => by rcases h with ⟨h, _⟩ | h; exact HZ.out h; exact h (up_name (of_decide_eq_true HUU.out.symm))) H16.out).symm)
              as_aux_lemma =>
                go_wp2_with (first
                  | (go_at_call 80; refine (hup _).mono ?_; rintro e w' ⟨rfl, hw⟩; obtain rfl := hw.symm)
                  | (go_at_call 81; refine (hlo _).mono ?_; rintro e w' ⟨rfl, hw⟩; obtain rfl := hw.symm)
                  | (go_at_call 82; refine (hdi _).mono ?_; rintro e w' ⟨rfl, hw⟩; obtain rfl := hw.symm))
                go_roundw
                case rel => exact ⟨k + 1, p, z + 1, Nat.succ_le_of_lt HN.out.1, by go_num, by go_num, by go_num, by have := HN.out.2.1; omega, by have := H16.out; omega, hf.out, rfl⟩
                case measure => simpa [intOf] using hmu
            | false =>
              cases L with
              | true =>
                have hf : Hid (scanN p (z + 1) (s.data.toList.drop (k + 1)) = scanN 1 0 s.data.toList) := Lib.hid (by rw [← HR.out, ← HSD.out]; exact (scan_ok _ H58.out (fun h => by rcases h with ⟨h, _⟩ | h; exact HZ.out h; exact h ((.inr (.inl (of_decide_eq_true HLL.out.symm)) : nameP _))) H16.out).symm)
                as_aux_lemma =>
                  go_wp2_with (first
                    | (go_at_call 80; refine (hup _).mono ?_; rintro e w' ⟨rfl, hw⟩; obtain rfl := hw.symm)
                    | (go_at_call 81; refine (hlo _).mono ?_; rintro e w' ⟨rfl, hw⟩; obtain rfl := hw.symm)
                    | (go_at_call 82; refine (hdi _).mono ?_; rintro e w' ⟨rfl, hw⟩; obtain rfl := hw.symm))
                  go_roundw
                  case rel => exact ⟨k + 1, p, z + 1, Nat.succ_le_of_lt HN.out.1, by go_num, by go_num, by go_num, by have := HN.out.2.1; omega, by have := H16.out; omega, hf.out, rfl⟩
                  case measure => simpa [intOf] using hmu
              | false =>
                cases D with
                | true =>
                  have hf : Hid (scanN p (z + 1) (s.data.toList.drop (k + 1)) = scanN 1 0 s.data.toList) := Lib.hid (by rw [← HR.out, ← HSD.out]; exact (scan_ok _ H58.out (fun h => by rcases h with ⟨h, _⟩ | h; exact HZ.out h; exact h ((.inr (.inr (.inl (of_decide_eq_true HDD.out.symm))) : nameP _))) H16.out).symm)
                  as_aux_lemma =>
                    go_wp2_with (first
                      | (go_at_call 80; refine (hup _).mono ?_; rintro e w' ⟨rfl, hw⟩; obtain rfl := hw.symm)
                      | (go_at_call 81; refine (hlo _).mono ?_; rintro e w' ⟨rfl, hw⟩; obtain rfl := hw.symm)
                      | (go_at_call 82; refine (hdi _).mono ?_; rintro e w' ⟨rfl, hw⟩; obtain rfl := hw.symm))
                    go_roundw
                    case rel => exact ⟨k + 1, p, z + 1, Nat.succ_le_of_lt HN.out.1, by go_num, by go_num, by go_num, by have := HN.out.2.1; omega, by have := H16.out; omega, hf.out, rfl⟩
                    case measure => simpa [intOf] using hmu
                | false =>
                  by_cases h45 : s[k] = 45
                  · have b45 : ((s[k].toNat : Int) == 45) = true := by rw [h45]; rfl
                    have H45 := Lib.hid h45
                    clear h45
                    have hf : Hid (scanN p (z + 1) (s.data.toList.drop (k + 1)) = scanN 1 0 s.data.toList) := Lib.hid (by rw [← HR.out, ← HSD.out]; exact (scan_ok _ H58.out (fun h => by rcases h with ⟨h, _⟩ | h; exact HZ.out h; exact h ((.inr (.inr (.inr (by rw [H45.out]; rfl))) : nameP _))) H16.out).symm)
                    as_aux_lemma =>
                      go_wp2_with (first
                        | (go_at_call 80; refine (hup _).mono ?_; rintro e w' ⟨rfl, hw⟩; obtain rfl := hw.symm)
                        | (go_at_call 81; refine (hlo _).mono ?_; rintro e w' ⟨rfl, hw⟩; obtain rfl := hw.symm)
                        | (go_at_call 82; refine (hdi _).mono ?_; rintro e w' ⟨rfl, hw⟩; obtain rfl := hw.symm))
                      go_roundw
                      case rel => exact ⟨k + 1, p, z + 1, Nat.succ_le_of_lt HN.out.1, by go_num, by go_num, by go_num, by have := HN.out.2.1; omega, by have := H16.out; omega, hf.out, rfl⟩
                      case measure => simpa [intOf] using hmu
                  · have b45 : ((s[k].toNat : Int) == 45) = false := byte_ne h45
                    have H45 := Lib.hid h45
                    clear h45
                    have hf : Hid (R = false) := Lib.hid (by rw [← HSD.out]; exact scan_bad _ H58.out (.inr (not_name (of_decide_eq_false HUU.out.symm) (of_decide_eq_false HLL.out.symm) (of_decide_eq_false HDD.out.symm) H45.out)))
                    as_aux_lemma =>
                      go_wp2_with (first
                        | (go_at_call 80; refine (hup _).mono ?_; rintro e w' ⟨rfl, hw⟩; obtain rfl := hw.symm)
                        | (go_at_call 81; refine (hlo _).mono ?_; rintro e w' ⟨rfl, hw⟩; obtain rfl := hw.symm)
                        | (go_at_call 82; refine (hdi _).mono ?_; rintro e w' ⟨rfl, hw⟩; obtain rfl := hw.symm))
                      go_ret
                      rw [hf.out]
                      exact ⟨rfl, rfl⟩
    · obtain rfl : k = s.size := by omega
      have hfin : Hid (R = (decide (0 < z) && decide (p ≤ 6))) := Lib.hid (by rw [HR.out, ← hsc, List.drop_of_length_le (by rw [data_len]; omega)]; rfl)
      clear hsc
      by_cases hz : 0 < z
      · by_cases hp6 : p ≤ 6
        · have e1 : (0 : Int) < (z : Int) := by omega
          have e2 : ¬ (6 : Int) < (p : Int) := by omega
          have e3 : (p : Int) ≤ 6 := by omega
          have hr : Hid (R = true) := Lib.hid (by rw [hfin.out, decide_eq_true hz, decide_eq_true hp6]; rfl)
          clear hz hp6
          go_wp2
          go_ret
          rw [hr.out]
          exact ⟨rfl, rfl⟩
        · have e1 : (0 : Int) < (z : Int) := by omega
          have e3 : ¬ (p : Int) ≤ 6 := by omega
          have e4 : (6 : Int) < (p : Int) := by omega
          have hr : Hid (R = false) := Lib.hid (by rw [hfin.out, decide_eq_false hp6, Bool.and_false])
          clear hz hp6
          go_wp2
          go_ret
          rw [hr.out]
          exact ⟨rfl, rfl⟩
      · have e1 : ¬ (0 : Int) < (z : Int) := by omega
        have hr : Hid (R = false) := Lib.hid (by rw [hfin.out, decide_eq_false hz, Bool.false_and])
        clear hz
        go_wp2
        go_ret
        rw [hr.out]
        exact ⟨rfl, rfl⟩

theorem refGood_any (s : ByteArray) (w : World) (hs : s.size ≤ 1048576) :
    Calls Tryz.prog 7 #[.string s] w fun e w' => e = .returned (.bool (goodB s.data.toList)) ∧ w' = w := by
  have h := refName_any s w hs
  go_enter Tryz.func7, Tryz.ntmps7
  go_wp2_with (go_at_call 25; refine h.mono ?_; rintro e w' ⟨rfl, hw⟩; obtain rfl := hw.symm)
  go_ret
  exact ⟨rfl, rfl⟩

/-- While the path is told. -/
structure RPathInv (w : World) (s : ByteArray) (v iv : Value) (wr : World) (j : Nat) (pre : List ByteArray) : Prop where
  le : j ≤ s.size
  i : iv = .int .i64 ((j : Int) - 1)
  row : wr.ownsRow w.heap.size 9 1 v pre.length (pre.map Value.string)
  eq : pre ++ colT s.data.toList j = pathF 103 s
  bel : Below w.heap.size w wr
theorem col_step (s : ByteArray) (k : Nat) (hk : k < s.size) : colT s.data.toList (k + 1) = if s[k] = 58 then s.extract 0 k :: colT s.data.toList k else colT s.data.toList k := by
  have hl : k < s.data.toList.length := by rw [data_len]; exact hk
  rw [colT_succ, List.getElem?_eq_getElem hl, data_get s k hk]
  have e : (⟨(s.data.toList.take k).toArray⟩ : ByteArray) = s.extract 0 k := ba_ext (by rw [extract0_list])
  rw [e]
  by_cases h : s[k] = 58
  · rw [if_pos h, if_pos (by rw [h])]
  · rw [if_neg h, if_neg (fun e => h (Option.some.inj e))]
set_option maxRecDepth 100000 in
set_option maxHeartbeats 2000000 in
theorem refPath_any (s : ByteArray) (w : World) (hs : s.size ≤ 1048576) :
    Calls Tryz.prog 16 #[.string s] w fun e w' => ∃ v, e = .returned v ∧ w'.ownsRow w.heap.size 9 1 v (path7 s).length ((path7 s).map Value.string) ∧ Below w.heap.size w w' := by
  have hg := refGood_any s w hs
  unfold path7
  cases hb : goodB s.data.toList with
  | false =>
    rw [hb] at hg
    clear hb
    go_enter Tryz.func16, Tryz.ntmps16
    go_wp2_with (go_at_call 7; refine hg.mono ?_; rintro e w' ⟨rfl, hw⟩; obtain rfl := hw.symm)
    go_ret
    exact ⟨_, rfl, World.ownsRow_nil _ _ _ _, Below.refl _ _⟩
  | true =>
    obtain ⟨i0, hi, hz0, hz1, hz2⟩ := info_parts info_str
    have hsz := good_size7 hb
    have hpc := path_cols 103 s (by omega) hb
    rw [data_len] at hpc
    have HPC := Lib.hid hpc
    rw [hb] at hg
    clear hb hpc
    simp only [if_true]
    have hn : 0 < s.size ∨ s.size = 0 := by omega
    go_enter Tryz.func16, Tryz.ntmps16
    go_wp2_with (go_at_call 7; refine hg.mono ?_; rintro e w' ⟨rfl, hw⟩; obtain rfl := hw.symm)
    go_loopw [4, 5] (fun v iv wr => ∃ j pre, RPathInv w s v iv wr j pre) (fun _ iv _ => (intOf iv + 1).toNat)
    case atStart => exact ⟨s.size, [s], Nat.le_refl _, by go_num, own_one s _ (Nat.le_refl _) (Below.refl _ _), HPC.out.symm, bel1 _ _⟩
    case round =>
      obtain ⟨j, pre, ⟨hj, rfl, hrow, heq, hbel⟩⟩ := hrel
      have hpl : pre.length ≤ 103 := by
        have h1 := path_len 103 s
        rw [← heq, List.length_append] at h1
        omega
      have HEQ := Lib.hid heq
      have HO := Lib.hid hrow
      clear heq hrow
      cases j with
      | zero =>
        have heq := HEQ.out
        have heq' : pre = pathF 103 s := by rw [← heq]; simp [colT]
        go_wp2
        go_ret
        rw [← heq']
        exact ⟨_, rfl, HO.out, hbel⟩
      | succ k =>
        have hk : k < s.size := by omega
        have hcs := col_step s k hk
        have e1 : ((k + 1 : Nat) : Int) - 1 = (k : Int) := by omega
        rw [e1]
        have HCS := Lib.hid hcs
        obtain ⟨c, hc⟩ : ∃ c, c = s[k] := ⟨_, rfl⟩
        clear hcs
        by_cases h58 : s[k] = 58
        · have b58 : ((s[k].toNat : Int) == 58) = true := by rw [h58]; rfl
          have hx : Hid (colT s.data.toList (k + 1) = s.extract 0 k :: colT s.data.toList k) := Lib.hid (by rw [HCS.out, if_pos h58])
          clear h58 hc
          go_wp2_with (at_builtin; refine wpList_append_own _ rfl _ _ 50 rfl w.heap.size 9 i0 (.string ByteArray.empty) 1 16 Tryz.underlying50 hi hz0 hz1 hz2 rfl (by decide) _ _ _ rfl (HO.out.alloc _) ⟨wr.heap.size, 0, none⟩ 1 1 [.string (s.extract 0 k)] rfl rfl (cell_one_new _ _ _) (by simp [Value.oneCell']) (by unfold maxLen; omega) (by omega) (by have := hbel.size; simp; omega) ?_; intro v' w1 hown' hgrow _; have HO1 := Lib.hid hown'; have hb1 : Below w.heap.size w w1 := (hbel.alloc hbel.size _).grown hgrow (by have := hbel.size; simp; omega) fun k' hk' => (HO.out.lt k' hk').1; clear hown' hgrow)
          refine ⟨⟨k, pre ++ [s.extract 0 k], ⟨by omega, rfl, by simpa using HO1.out, ?_, hb1⟩⟩, ?_⟩
          · rw [← HEQ.out, hx.out, List.append_assoc]; rfl
          · simp [intOf]
        · have b58 : ((s[k].toNat : Int) == 58) = false := byte_ne h58
          have hx : Hid (colT s.data.toList (k + 1) = colT s.data.toList k) := Lib.hid (by rw [HCS.out, if_neg h58])
          clear h58 hc
          go_wp2
          refine ⟨⟨k, pre, ⟨by omega, rfl, HO.out, by rw [← HEQ.out, hx.out], hbel⟩⟩, ?_⟩
          simp [intOf]
end Go.Proofs.YtplocldnklccfaaGreatDoor
namespace Go.Proofs.YtplocldnklccfaaGreatDoor
open Go.RowKit Go.Shelf
set_option linter.unusedVariables false
set_option linter.unusedSimpArgs false

theorem path7_eq (s : ByteArray) : pathG s = path7 s := rfl
theorem own_str {w : World} {B e : Nat} {v : Value} {l : List ByteArray} (h : w.ownsRow B e 1 v l.length (l.map Value.string)) (hn : 0 < l.length) : ∃ g c, v = .slice (some ⟨g, 0, none⟩) l.length c ∧ ∀ j (hj : j < l.length), w.cell? ⟨g, j, none⟩ = some (.string l[j]) := by
  rcases h.2 with ⟨_, h0⟩ | ⟨g, cap, cur, hv, _⟩
  · omega
  · refine ⟨g, cap, hv, fun j hj => ?_⟩
    rw [own_get h (by rw [hv]; rfl) j (by omega)]
    rw [List.getElem?_map, List.getElem?_eq_getElem hj]
    rfl
/-- Texts that can be read. -/
def TxtAt (w : World) (v : Value) (l : List ByteArray) : Prop := ∃ A c, v = .slice A l.length c ∧ ∀ j (hj : j < l.length), ∃ ad, A = some ad ∧ ad.block < w.heap.size ∧ w.cell? (ad.add j) = some (.string l[j])
theorem TxtAt.own {w : World} {B e : Nat} {v : Value} {l : List ByteArray} (h : w.ownsRow B e 1 v l.length (l.map Value.string)) : TxtAt w v l := by
  by_cases hn : 0 < l.length
  · obtain ⟨g, c, hv, hc⟩ := own_str h hn
    refine ⟨_, c, hv, fun j hj => ⟨_, rfl, (h.lt g (by rw [hv]; rfl)).2, ?_⟩⟩
    rw [Addr.add_lit]
    simpa using hc j hj
  · obtain ⟨A, c, hv⟩ := own_form h
    exact ⟨A, c, hv, fun j hj => by omega⟩
theorem TxtAt.keep {w w' : World} {v : Value} {l : List ByteArray} (h : TxtAt w v l) (hb : Below w.heap.size w w') : TxtAt w' v l := by
  obtain ⟨A, c, hv, hx⟩ := h
  have hs := hb.size
  refine ⟨A, c, hv, fun j hj => ?_⟩
  obtain ⟨ad, e1, h1, h2⟩ := hx j hj
  exact ⟨ad, e1, by omega, (hb.cell (p := ad.add j) (by rw [block_add]; exact h1)).trans h2⟩

theorem refParent_any (s : ByteArray) (w : World) (hs : s.size ≤ 1048576) :
    Calls Tryz.prog 11 #[.string s] w fun e w' => e = .returned (.tuple #[.string ((parentF s).getD ⟨#[]⟩), .bool (parentF s).isSome]) ∧ Below w.heap.size w w' := by
  have hp := refPath_any s w hs
  have h2 := path7_second s
  have hl := path7_len s
  obtain ⟨L, hL⟩ : ∃ L, L = path7 s := ⟨_, rfl⟩
  obtain ⟨P, hP⟩ : ∃ P, P = parentF s := ⟨_, rfl⟩
  rw [← hL] at hp h2 hl
  rw [← hP] at h2 ⊢
  clear hL hP
  cases P with
  | none =>
    have h : L.length < 2 := by
      rw [List.getElem?_eq_none_iff] at h2; omega
    have hi : ((L.length : Nat) : Int) < 2 := by omega
    clear h2 h
    go_enter Tryz.func11, Tryz.ntmps11
    go_wp2_with (go_at_call 16; refine hp.mono ?_)
    rintro e w1 ⟨v, rfl, hown, hb⟩
    obtain ⟨A, c, rfl⟩ := own_form hown
    clear hp hown
    go_wp2
    go_ret2
    exact ⟨rfl, hb⟩
  | some u =>
    have H2 := Lib.hid h2
    have hlen : 2 ≤ L.length := (List.getElem?_eq_some_iff.1 h2).1
    have hi : ¬ ((L.length : Nat) : Int) < 2 := by omega
    have hi2 : (1 : Int) < ((L.length : Nat) : Int) := by omega
    have HL2 := Lib.hid hlen
    clear h2 hlen
    go_enter Tryz.func11, Tryz.ntmps11
    go_wp2_with (go_at_call 16; refine hp.mono ?_; rintro e w1 ⟨v, rfl, hown, hb⟩; obtain ⟨g, c, rfl, hc⟩ := own_str hown (Nat.lt_of_lt_of_le (by decide) HL2.out); have h1 := hc 1 HL2.out; rw [(List.getElem?_eq_some_iff.1 H2.out).2] at h1; have HB := Lib.hid hb; clear hp hown hc hb)
    go_ret2
    exact ⟨rfl, HB.out⟩
theorem refRoot_any (s : ByteArray) (w : World) (hs : s.size ≤ 1048576) :
    Calls Tryz.prog 13 #[.string s] w fun e w' => e = .returned (.string (rootG s)) ∧ Below w.heap.size w w' := by
  have hp := refPath_any s w hs
  have h2 := path7_last s
  have hl := path7_len s
  obtain ⟨L, hL⟩ : ∃ L, L = path7 s := ⟨_, rfl⟩
  rw [← hL] at hp h2 hl
  clear hL
  unfold rootG
  cases hg : goodB s.data.toList with
  | false =>
    rw [hg, if_neg (by simp), List.getLast?_eq_none_iff] at h2
    have hi : (((L.length : Nat) : Int) == 0) = true := by rw [h2]; rfl
    have HG := Lib.hid (And.intro hg h2)
    clear hg h2
    go_enter Tryz.func13, Tryz.ntmps13
    go_wp2_with (go_at_call 16; refine hp.mono ?_)
    rintro e w1 ⟨v, rfl, hown, hb⟩
    obtain ⟨A, c, rfl⟩ := own_form hown
    clear hp hown
    go_wp2
    go_ret
    exact ⟨rfl, hb⟩
  | true =>
    rw [hg, if_pos rfl] at h2
    have h0 : L.length ≠ 0 := fun h => by rw [List.eq_nil_of_length_eq_zero h] at h2; cases h2
    have hi : (((L.length : Nat) : Int) == 0) = false := by rw [beq_eq_false_iff_ne]; omega
    rw [List.getLast?_eq_getElem?, List.getElem?_eq_getElem (by omega : L.length - 1 < L.length)] at h2
    obtain ⟨n, hn⟩ : ∃ n, L.length = n + 1 := ⟨L.length - 1, by omega⟩
    have e2 : wrap64 (((L.length : Nat) : Int) - 1) = (n : Int) := by unfold wrap64; omega
    have e2' : IntKind.i64.wrap (((L.length : Nat) : Int) - 1) = (n : Int) := by rw [show ((L.length : Nat) : Int) - 1 = (n : Int) by omega]; exact IntWalk.i64_in _ (by omega)
    have e3 : (n : Int) < ((L.length : Nat) : Int) := by omega
    obtain ⟨rf, hrf⟩ : ∃ rf, rf = rootF s := ⟨_, rfl⟩
    rw [← hrf] at h2 ⊢
    have H2 := Lib.hid (show L[n]? = some rf by rw [← h2, List.getElem?_eq_getElem (by omega : n < L.length)]; congr 2; omega)
    have HN := Lib.hid hn
    simp only [if_true]
    clear h2 hg hrf h0 hn
    go_enter Tryz.func13, Tryz.ntmps13
    go_wp2_with (go_at_call 16; refine hp.mono ?_)
    rintro e w1 ⟨v, rfl, hown, hb⟩
    have hn := HN.out
    obtain ⟨g, c, rfl, hc⟩ := own_str hown (by omega)
    obtain ⟨hl2, hu⟩ := List.getElem?_eq_some_iff.1 H2.out
    have h1 := hc n hl2
    rw [hu] at h1
    clear hp hown hc hn hu
    go_wp2
    go_ret
    exact ⟨rfl, hb⟩
set_option maxRecDepth 100000 in
theorem refUnder_any (a b : ByteArray) (w : World) (hs : a.size ≤ 1048576) :
    Calls Tryz.prog 9 #[.string a, .string b] w fun e w' => e = .returned (.bool (underF a b)) ∧ Below w.heap.size w w' := by
  have hp := refPath_any a w hs
  have h2 := path7_under a b
  have hl := path7_len a
  obtain ⟨L, hL⟩ : ∃ L, L = path7 a := ⟨_, rfl⟩
  rw [← hL] at hp h2 hl
  have H2 := Lib.hid h2
  clear hL h2
  go_enter Tryz.func9, Tryz.ntmps9
  go_wp2_with (go_at_call 16; refine hp.mono ?_)
  rintro e w1 ⟨v, rfl, hown, hb⟩
  have ht := TxtAt.own hown
  obtain ⟨A, c, rfl, hx⟩ := ht
  have HX := Lib.hid hx
  have HB := Lib.hid hb
  clear hp hown hx hb
  go_wp2
  go_loopw [6] (fun i wr => ∃ k : Nat, i = .int .i64 (k : Int) ∧ k ≤ L.length ∧ (∀ j (hj : j < L.length), j < k → L[j] ≠ b) ∧ wr = w1) (fun i _ => L.length - (intOf i).toNat)
  case atStart => exact ⟨0, rfl, Nat.zero_le _, fun j _ h => absurd h (by omega), rfl⟩
  case round =>
    obtain ⟨k, rfl, hk, hno, hsame⟩ := hrel
    obtain rfl := hsame.symm
    have HNO := Lib.hid hno
    clear hno
    by_cases hlt : k < L.length
    · obtain ⟨ad, rfl, _, hc⟩ := HX.out k hlt
      obtain ⟨u, hu⟩ : ∃ u, u = L[k] := ⟨_, rfl⟩
      rw [← hu] at hc
      have HU := Lib.hid hu
      clear hu
      have hmu : L.length - ((k : Int) + 1).toNat < L.length - k := by omega
      by_cases he : u = b
      · have hq : (u.toList == b.toList) = true := by rw [he]; simp
        have hr : Hid (underF a b = true) := Lib.hid (by rw [← H2.out, List.any_eq_true]; exact ⟨u, by rw [HU.out]; exact List.getElem_mem hlt, by simpa using he⟩)
        clear he
        go_wp2
        go_ret
        rw [hr.out]
        exact ⟨rfl, HB.out⟩
      · have hq : (u.toList == b.toList) = false := by
          rw [beq_eq_false_iff_ne]
          intro e
          exact he (ByteArray.ext (by simpa [ByteArray.toList_eq] using e))
        have hn : Hid (∀ j (hj : j < L.length), j < k + 1 → L[j] ≠ b) := Lib.hid (fun j hj h1 => by
          by_cases e : j = k
          · subst e; rw [← HU.out]; exact he
          · exact HNO.out j hj (by omega))
        clear he
        go_wp2
        go_roundw
        case rel => exact ⟨k + 1, by go_num, by omega, hn.out, by first | rfl | trivial⟩
        case measure => simpa [intOf] using hmu
    · have hr : Hid (underF a b = false) := Lib.hid (by
        rw [← H2.out, List.any_eq_false]
        intro x hx
        obtain ⟨j, hj, rfl⟩ := List.getElem_of_mem hx
        simpa using HNO.out j hj (by omega))
      go_wp2
      go_ret
      rw [hr.out]
      exact ⟨rfl, HB.out⟩

set_option maxRecDepth 100000 in
theorem sameTexts_same {w : World} {v v' : Value} (l : List ByteArray) (h : TxtAt w v l) (h' : TxtAt w v' l) (hl : l.length ≤ 1048576) :
    Calls Tryz.prog 15 #[v, v'] w fun en w' => en = .returned (.bool true) ∧ ∃ m, w' = w.drewN m := by
  obtain ⟨A, c, rfl, hx⟩ := h
  obtain ⟨A', c', rfl, hx'⟩ := h'
  have HX := Lib.hid hx
  have HX' := Lib.hid hx'
  clear hx hx'
  go_enter Tryz.func15, Tryz.ntmps15
  go_wp2
  go_loopw [5] (fun i wr => ∃ k : Nat, i = .int .i64 (k : Int) ∧ k ≤ l.length ∧ ∃ m, wr = w.drewN m) (fun i _ => l.length - (intOf i).toNat)
  case atStart => exact ⟨0, rfl, Nat.zero_le _, 0, rfl⟩
  case round =>
    obtain ⟨k, rfl, hk, m, rfl⟩ := hrel
    by_cases hlt : k < l.length
    · obtain ⟨ad, rfl, _, hc⟩ := HX.out k hlt
      obtain ⟨ad', rfl, _, hc'⟩ := HX'.out k hlt
      obtain ⟨r, hr⟩ : ∃ r, r = l[k] := ⟨_, rfl⟩
      rw [← hr] at hc hc'
      have hmu : l.length - ((k : Int) + 1).toNat < l.length - k := by omega
      clear hr
      go_wp2
      go_quiet (fail)
      go_wp2
      go_roundw
      case rel => exact ⟨k + 1, by go_num, by omega, m + nq, by first | rfl | rw [World.drewN_drewN]⟩
      case measure => simpa [intOf] using hmu
    · go_wp2
      go_ret
      exact ⟨rfl, m, rfl⟩
end Go.Proofs.YtplocldnklccfaaGreatDoor
namespace Go.Proofs.YtplocldnklccfaaGreatDoor
open Go.RowKit
set_option linter.unusedVariables false
set_option linter.unusedSimpArgs false

def txts (id : Int) (n : Nat) : List Value := (marksL textF id n).map .string
theorem txts_succ (id : Int) (n : Nat) : txts id (n + 1) = txts id n ++ [.string (textF id n)] := by unfold txts; rw [marksL_succ, List.map_append]; rfl
theorem txts_len (id : Int) (n : Nat) : (txts id n).length = n := by unfold txts; rw [List.length_map, marksL_len]
theorem txts_set (id : Int) (k : Nat) (xs : List Value) (h : k < xs.length) : (txts id k ++ xs.drop k).set k (.string (textF id k)) = txts id (k + 1) ++ xs.drop (k + 1) := by
  rw [txts_succ, List.set_append, if_neg (by rw [txts_len]; omega), txts_len, Nat.sub_self, List.drop_eq_getElem_cons h, List.set_cons_zero, List.append_assoc]
  rfl

structure FillInv (w : World) (pb : Nat) (cs : Array Value) (pt : TypeId) (L : Value) (n : Nat) (id : Int) (xs : List Value) (i : Value) (wr : World) (k : Nat) : Prop where
  le : k ≤ n
  at_ : i = .int .i64 (k : Int)
  page : wr.heap[pb]? = some (.cells cs pt (0, 0))
  own : wr.ownsRow 0 9 1 L n (txts id k ++ xs.drop k)
  ch : Ch (fun q => L.ownBlock = some q) w wr
set_option maxRecDepth 100000 in
set_option maxHeartbeats 4000000 in
theorem fill_any {w : World} {pb po n c : Nat} {cs : Array Value} {pt : TypeId} {A : Option Addr} {id : Int} {d : Bool} {xs : List Value} (hp : w.heap[pb]? = some (.cells cs pt (0, 0)))
    (h0 : cs[po]? = some (.slice A n c)) (h3 : cs[po + 3]? = some (.int .i64 id)) (h4 : cs[po + 4]? = some (.bool d)) (hown : w.ownsRow 0 9 1 (.slice A n c) n xs)
    (hne : ∀ q, (Value.slice A n c).ownBlock = some q → q ≠ pb) (hn : n ≤ 1048576) (hid : 0 ≤ id ∧ id ≤ 1048576) (hpow : ∀ W, Ch (fun q => (Value.slice A n c).ownBlock = some q) w W → Pow W) :
    Calls Tryz.prog 30 #[.pointer (some ⟨pb, po, none⟩)] w fun e w' => e = .returned (.tuple #[]) ∧ w'.heap[pb]? = some (.cells (cs.setIfInBounds (po + 4) (.bool true)) pt (0, 0)) ∧
      w'.ownsRow 0 9 1 (.slice A n c) n (txts id n) ∧ Ch (fun q => q = pb ∨ (Value.slice A n c).ownBlock = some q) w w' := by
  have HXL := Lib.hid (show xs.length = n by have := hown.1; omega)
  have HC := Lib.hid (And.intro h0 (And.intro h3 h4))
  have HN := Lib.hid hne
  have HPOW := Lib.hid hpow
  have HI := Lib.hid (show FillInv w pb cs pt (.slice A n c) n id xs (.int .i64 0) w 0 from ⟨Nat.zero_le _, rfl, hp, by simpa [txts, marksL] using hown, Ch.refl _ _⟩)
  have hblk := heap_lt hp
  clear hp h0 h3 h4 hown hne hpow
  go_enter Tryz.func30, Tryz.ntmps30
  go_wp2
  go_loopw [2] (fun i wr => ∃ k : Nat, FillInv w pb cs pt (.slice A n c) n id xs i wr k) (fun i _ => n - (intOf i).toNat)
  case atStart => exact ⟨0, HI.out⟩
  case round =>
    obtain ⟨k, hk, rfl, hpg, hrow, hch⟩ := hrel
    have hcell : ∀ W : World, W.heap[pb]? = wr.heap[pb]? → W.cell? ⟨pb, po, none⟩ = some (.slice A n c) ∧ W.cell? ⟨pb, po + 3, none⟩ = some (.int .i64 id) ∧ W.cell? ⟨pb, po + 4, none⟩ = some (.bool d) := fun W hW => by
      rw [cell_of_blk (hW.trans hpg), cell_of_blk (hW.trans hpg), cell_of_blk (hW.trans hpg)]
      exact ⟨HC.out.1, HC.out.2.1, HC.out.2.2⟩
    have HCELL := Lib.hid hcell
    have HPG := Lib.hid hpg
    have HCH := Lib.hid hch
    obtain ⟨p0, _, p4⟩ := hcell wr rfl
    by_cases hlt : k < n
    · have hA : ∃ lb, A = some ⟨lb, 0, none⟩ := by
        rcases hrow.2 with ⟨hv, h0⟩ | ⟨g, cap, cur, hv, _⟩
        · omega
        · injection hv with e1 _ _; exact ⟨g, e1⟩
      obtain ⟨lb, rfl⟩ := hA
      have hll := (hrow.lt lb rfl).2
      have hlp : lb ≠ pb := HN.out lb rfl
      have hblr : pb < wr.heap.size := heap_lt hpg
      have HOWN := Lib.hid (fun W (hb : Below wr.drew.heap.size wr.drew W) => ownsRow_keep (w' := W) hrow fun q e => hb.block q (hrow.lt q e).2)
      have HS := Lib.hid (fun W (hb : Below wr.drew.heap.size wr.drew W) => (show W.cell? ⟨pb, po, none⟩ = some (.slice (some ⟨lb, 0, none⟩) n c) ∧ W.cell? ⟨pb, po + 3, none⟩ = some (.int .i64 id) from ⟨(HCELL.out W (hb.block pb hblr)).1, (HCELL.out W (hb.block pb hblr)).2.1⟩))
      have HST := Lib.hid (fun W (hb : Below wr.drew.heap.size wr.drew W) => (show ((W.setCell ⟨lb, k, none⟩ (.string (textF id k))).cell? ⟨pb, po, none⟩ = some (.slice (some ⟨lb, 0, none⟩) n c) ∧ (W.setCell ⟨lb, k, none⟩ (.string (textF id k))).cell? ⟨pb, po + 3, none⟩ = some (.int .i64 id)) from ⟨(HCELL.out _ ((Below.heap_setCell W ⟨lb, k, none⟩ (.string (textF id k)) pb (Ne.symm hlp)).trans (hb.block pb hblr))).1, (HCELL.out _ ((Below.heap_setCell W ⟨lb, k, none⟩ (.string (textF id k)) pb (Ne.symm hlp)).trans (hb.block pb hblr))).2.1⟩))
      have hmk := markTexts_any wr.drew (HPOW.out wr.drew hch.drew) id (k : Int) ⟨by omega, by omega⟩ ⟨by omega, by omega⟩
      have hHeld := HS.out wr.drew (Below.refl _ _)
      have hmu : n - ((k : Int) + 1).toNat < n - k := by omega
      have hwk : wrap64 ((k : Int) + 1) = (k : Int) + 1 := by unfold wrap64; omega
      clear hrow hcell hch hpg p4
      go_wp2
      clear p0
      refine wp_region_n (n := 13) (S := fun w' => w'.cell? ⟨pb, po, none⟩ = some (.slice (some ⟨lb, 0, none⟩) n c) ∧ w'.cell? ⟨pb, po + 3, none⟩ = some (.int .i64 id)) (by kernel_rfl) ?_
      refine wpAnyN_take (i := 0) (v := ?_) rfl (by kernel_rfl) (by kernel_rfl) (by kernel_rfl) (by kernel_rfl) (fun _ _ _ h => h) (Or.inl ⟨by kernel_rfl, ?y1⟩) hHeld ?_
      case y1 =>
        intro w0 hSw
        (try dsimp only at hSw)
        go_simp
        try with_reducible rfl
      try simp only [Act.put, qa5, qb5, qc5, qd5, qe5, qf5]
      refine wpAnyN_take (i := 1) (v := ?_) rfl (by kernel_rfl) (by kernel_rfl) (by kernel_rfl) (by kernel_rfl) (fun _ _ _ h => h) (Or.inl ⟨by kernel_rfl, ?y2⟩) hHeld ?_
      case y2 =>
        intro w0 hSw
        (try dsimp only at hSw)
        go_simp
        try with_reducible rfl
      try simp only [Act.put, qa5, qb5, qc5, qd5, qe5, qf5]
      refine wpAnyN_take (i := 2) (v := ?_) rfl (by kernel_rfl) (by kernel_rfl) (by kernel_rfl) (by kernel_rfl) (fun _ _ _ h => h) (Or.inl ⟨by kernel_rfl, ?y3⟩) hHeld ?_
      case y3 =>
        intro w0 hSw
        (try dsimp only at hSw)
        go_simp
        try with_reducible rfl
      try simp only [Act.put, qa5, qb5, qc5, qd5, qe5, qf5]
      refine wpAnyN_take (i := 3) (v := ?_) rfl (by kernel_rfl) (by kernel_rfl) (by kernel_rfl) (by kernel_rfl) (fun _ _ _ h => h) (Or.inl ⟨by kernel_rfl, ?y4⟩) hHeld ?_
      case y4 =>
        intro w0 hSw
        (try dsimp only at hSw)
        go_simp
        try with_reducible rfl
      try simp only [Act.put, qa5, qb5, qc5, qd5, qe5, qf5]
      refine wpAnyN_take (i := 4) (v := ?_) rfl (by kernel_rfl) (by kernel_rfl) (by kernel_rfl) (by kernel_rfl) (fun _ _ _ h => h) (Or.inl ⟨by kernel_rfl, ?y5⟩) hHeld ?_
      case y5 =>
        intro w0 hSw
        (try dsimp only at hSw)
        go_simp
        try with_reducible rfl
      try simp only [Act.put, qa5, qb5, qc5, qd5, qe5, qf5]
      refine wpAnyN_take (i := 5) (v := ?_) rfl (by kernel_rfl) (by kernel_rfl) (by kernel_rfl) (by kernel_rfl) (fun _ _ _ h => h) (Or.inl ⟨by kernel_rfl, ?y6⟩) hHeld ?_
      case y6 =>
        intro w0 hSw
        (try dsimp only at hSw)
        go_simp
        try with_reducible rfl
      try simp only [Act.put, qa5, qb5, qc5, qd5, qe5, qf5]
      refine wpAnyN_take (i := 6) (v := ?_) rfl (by kernel_rfl) (by kernel_rfl) (by kernel_rfl) (by kernel_rfl) (fun _ _ _ h => h) (Or.inl ⟨by kernel_rfl, ?y7⟩) hHeld ?_
      case y7 =>
        intro w0 hSw
        (try dsimp only at hSw)
        go_simp
        try with_reducible rfl
      try simp only [Act.put, qa5, qb5, qc5, qd5, qe5, qf5]
      refine wpAnyN_take (i := 7) (v := ?_) rfl (by kernel_rfl) (by kernel_rfl) (by kernel_rfl) (by kernel_rfl) (fun _ _ _ h => h) (Or.inl ⟨by kernel_rfl, ?y8⟩) hHeld ?_
      case y8 =>
        intro w0 hSw
        (try dsimp only at hSw)
        go_simp
        try with_reducible rfl
      try simp only [Act.put, qa5, qb5, qc5, qd5, qe5, qf5]
      refine wpAnyN_take (i := 8) (v := ?_) rfl (by kernel_rfl) (by kernel_rfl) (by kernel_rfl) (by kernel_rfl) (fun _ _ _ h => h) (Or.inl ⟨by kernel_rfl, ?y9⟩) hHeld ?_
      case y9 =>
        intro w0 hSw
        (try dsimp only at hSw)
        go_simp
        try with_reducible rfl
      try simp only [Act.put, qa5, qb5, qc5, qd5, qe5, qf5]
      refine wpAnyN_take (i := 9) (v := ?_) rfl (by kernel_rfl) (by kernel_rfl) (by kernel_rfl) (by kernel_rfl) (fun _ _ _ h => h) (Or.inl ⟨by kernel_rfl, ?y10⟩) hHeld ?_
      case y10 =>
        intro w0 hSw
        (try dsimp only at hSw)
        go_simp
        try with_reducible rfl
      try simp only [Act.put, qa5, qb5, qc5, qd5, qe5, qf5]
      refine wpAnyN_step (i := 10) (by kernel_rfl) rfl (fun K hK => ?_)
      go_simp
      go_at_call 86
      refine (hmk).mono ?_
      rintro en wx ⟨rfl, hbx⟩
      have hHeld := HS.out wx hbx
      clear hmk
      go_wp2_with fail
      refine hK.out _ _ (fun _ => hHeld) ?_
      clear hK K
      try simp only [Act.put, qa5, qb5, qc5, qd5, qe5, qf5]
      refine wpAnyN_take (i := 11) (v := ?_) rfl (by kernel_rfl) (by kernel_rfl) (by kernel_rfl) (by kernel_rfl) (fun _ _ _ h => h) (Or.inl ⟨by kernel_rfl, ?y11⟩) hHeld ?_
      case y11 =>
        intro w0 hSw
        (try dsimp only at hSw)
        go_simp
        try with_reducible rfl
      try simp only [Act.put, qa5, qb5, qc5, qd5, qe5, qf5]
      refine wpAnyN_step (i := 12) (by kernel_rfl) rfl (fun K hK => ?_)
      have q1 := own_get (HOWN.out wx hbx) (g := lb) rfl k (by omega)
      have q2 := own_froz (HOWN.out wx hbx) (g := lb) rfl k
      rw [List.getElem?_append_right (by rw [txts_len]; exact Nat.le_refl _), txts_len, Nat.sub_self] at q1
      obtain ⟨y, hy⟩ : ∃ y, (xs.drop k)[0]? = some y := ⟨_, List.getElem?_eq_getElem (by rw [List.length_drop]; have := HXL.out; omega)⟩
      rw [hy] at q1
      clear hy
      go_simp
      refine hK.out _ _ (fun _ => HST.out wx hbx) ?_
      clear hK K
      try simp only [Act.put, qa5, qb5, qc5, qd5, qe5, qf5]
      refine wpAnyN_done (by kernel_rfl) ?_ _
      have hfin := own_set (HOWN.out wx hbx) (g := lb) rfl k (.string (textF id k))
      have hset := txts_set id k xs (by have := HXL.out; omega)
      unfold txts at hset hfin
      rw [hset] at hfin
      have hfp := (Below.heap_setCell wx ⟨lb, k, none⟩ (.string (textF id k)) pb (Ne.symm hlp)).trans ((hbx.block pb hblr).trans HPG.out)
      have hfc := ((HCH.out.drew).below hbx).setCell (p := ⟨lb, k, none⟩) (.inl rfl) (.string (textF id k))
      have HF := Lib.hid (And.intro hfp (And.intro hfin hfc))
      clear hfin hset hfp hfc q1 q2 hHeld
      go_wp2
      go_roundw
      case rel => exact ⟨k + 1, Nat.succ_le_of_lt hlt, by go_num, HF.out.1, HF.out.2.1, HF.out.2.2⟩
      case measure => simpa [intOf] using hmu
    · obtain rfl : k = n := by omega
      have f4 := frozen_blk hpg (po + 4)
      have hd : xs.drop k = [] := List.drop_of_length_le (by have := HXL.out; omega)
      rw [hd, List.append_nil] at hrow
      have hfin := ownsRow_keep (w' := wr.setCell ⟨pb, po + 4, none⟩ (.bool true)) hrow fun q e => Below.heap_setCell _ _ _ _ (HN.out q e)
      have hfp := heap_setCell_same (i := po + 4) hpg (.bool true)
      have hfc := (hch.mono (G := fun q => q = pb ∨ (Value.slice A k c).ownBlock = some q) fun q h => .inr h).setCell (p := ⟨pb, po + 4, none⟩) (.inl (.inl rfl)) (.bool true)
      have HF := Lib.hid (And.intro hfp (And.intro hfin hfc))
      clear hfin hfp hfc hrow hpg hch hcell hd
      go_wp2
      go_end0
      exact ⟨rfl, HF.out.1, HF.out.2.1, HF.out.2.2⟩
end Go.Proofs.YtplocldnklccfaaGreatDoor
namespace Go.Proofs.YtplocldnklccfaaGreatDoor
open Go.RowKit
set_option linter.unusedVariables false
set_option linter.unusedSimpArgs false

theorem room63 {n k : Nat} (h : n ≤ 1048576) (hk : k < 64) : n + k + 1 ≤ maxLen := by unfold maxLen; omega
theorem room47 {n k : Nat} (h : n ≤ 1048576) (hk : k < 64) : (n + k + 1) * 16 ≤ 140737488355328 := by omega
theorem txt_stays {w w' : World} {A : Option Addr} {c : Nat} {l : List ByteArray} {B e g cap m : Nat} {ys : List Value} {v : Value} (hL : TxtAt w (.slice A l.length c) l) (hown : w'.ownsRow B e 1 (.slice (some ⟨g, 0, none⟩) (l.length + m) cap) (l.length + m) (l.map Value.string ++ ys))
    (hgr : w.grownBy w' v.ownBlock) (hat : v.ownBlock = some g ∨ (g = w.heap.size ∧ w.grownBy w' none)) (hA : ∀ ad, A = some ad → ad = ⟨ad.block, 0, none⟩) : TxtAt w' (.slice A l.length c) l := by
  obtain ⟨A', c', hf, hx⟩ := hL
  injection hf with h1 _ h2
  subst h1 h2
  refine ⟨A, c, rfl, fun j hj => ?_⟩
  obtain ⟨ad, e1, hl, hc⟩ := hx j hj
  have keep : ∀ (row : Option Nat), w.grownBy w' row → (∀ q, row = some q → ad.block ≠ q) → ∃ ad, A = some ad ∧ ad.block < w'.heap.size ∧ w'.cell? (ad.add j) = some (.string l[j]) := fun row hg hne =>
    ⟨ad, e1, by have := hg.size; omega, by
      rw [← hc]
      exact World.cell?_of_block (by rw [block_add]; exact hg.block _ hl fun e => hne _ e.symm rfl)⟩
  rcases hat with hat | ⟨_, hat⟩
  · by_cases hb : ad.block = g
    · have had := hA ad e1
      rw [hb] at had
      subst had
      refine ⟨⟨g, 0, none⟩, e1, (hown.lt g rfl).2, ?_⟩
      have := own_get hown (g := g) rfl j (by omega)
      rw [Addr.add_lit, Nat.zero_add, this, List.getElem?_append_left (by simpa using hj), List.getElem?_map, List.getElem?_eq_getElem hj]
      rfl
    · exact keep _ hgr fun q e => by rw [hat] at e; obtain rfl : g = q := Option.some.inj e; exact hb
  · exact keep _ hat fun q e => by cases e

structure GrowInv (w : World) (pb po : Nat) (cs : Array Value) (pt : TypeId) (L : Value) (l : List ByteArray) (id : Int) (i : Value) (wr : World) (k : Nat) : Prop where
  le : k ≤ 64
  at_ : i = .int .i64 (k : Int)
  ex : ∃ GA gc, wr.heap[pb]? = some (.cells (cs.setIfInBounds (po + 1) (.slice GA (l.length + k) gc)) pt (0, 0)) ∧ wr.ownsRow 0 9 1 (.slice GA (l.length + k) gc) (l.length + k) (l.map Value.string ++ txts (id + 100000) k) ∧
    (∀ q, (Value.slice GA (l.length + k) gc).ownBlock = some q → L.ownBlock = some q ∨ w.heap.size ≤ q)
  txt : TxtAt wr L l
  ch : Ch (fun q => q = pb ∨ L.ownBlock = some q) w wr
theorem grow_next {w wr wb w5 : World} {pb po k c gc g cap : Nat} {cs : Array Value} {pt : TypeId} {A GA : Option Addr} {l : List ByteArray} {id : Int} {i' : Value} (hi : i' = .int .i64 ((k : Int) + 1)) (hk : k < 64)
    (hpg : wr.heap[pb]? = some (.cells (cs.setIfInBounds (po + 1) (.slice GA (l.length + k) gc)) pt (0, 0))) (hb : Below wr.heap.size wr wb) (htx : TxtAt wr (.slice A l.length c) l) (hch : Ch (fun q => q = pb ∨ (Value.slice A l.length c).ownBlock = some q) w wr)
    (hgb : ∀ q, (Value.slice GA (l.length + k) gc).ownBlock = some q → (Value.slice A l.length c).ownBlock = some q ∨ w.heap.size ≤ q) (hgp : ∀ q, (Value.slice GA (l.length + k) gc).ownBlock = some q → pb = q → False)
    (hA : ∀ ad, A = some ad → ad = ⟨ad.block, 0, none⟩) (hne : ∀ q, (Value.slice A l.length c).ownBlock = some q → q ≠ pb)
    (hown : w5.ownsRow 0 9 1 (.slice (some ⟨g, 0, none⟩) (l.length + k + 1) cap) (l.length + k + 1) ((l.map Value.string ++ txts (id + 100000) k) ++ [.string (textF (id + 100000) (k : Int))]))
    (hgr : wb.grownBy w5 (Value.slice GA (l.length + k) gc).ownBlock) (hat : (Value.slice GA (l.length + k) gc).ownBlock = some g ∨ (g = wb.heap.size ∧ wb.grownBy w5 none)) :
    GrowInv w pb po cs pt (.slice A l.length c) l id i' (w5.setCell ⟨pb, po + 1, none⟩ (.slice (some ⟨g, 0, none⟩) (l.length + k + 1) cap)) (k + 1) := by
  have hpl := heap_lt hpg
  have hsz := hch.size
  have hbs := hb.size
  have hgpb : g ≠ pb := fun e => by
    rcases hat with h | ⟨h, _⟩
    · exact hgp g h e.symm
    · omega
  have hpg5 : w5.heap[pb]? = some (.cells (cs.setIfInBounds (po + 1) (.slice GA (l.length + k) gc)) pt (0, 0)) := (hgr.block pb (by omega) fun e => hgp _ e.symm rfl).trans ((hb.block pb hpl).trans hpg)
  have hset := Below.heap_setCell w5 ⟨pb, po + 1, none⟩ (.slice (some ⟨g, 0, none⟩) (l.length + k + 1) cap)
  have hown2 := ownsRow_keep (w' := w5.setCell ⟨pb, po + 1, none⟩ (.slice (some ⟨g, 0, none⟩) (l.length + k + 1) cap)) hown fun q e => hset q (by
    obtain rfl : g = q := Option.some.inj e
    exact hgpb)
  have htx5 := txt_stays (m := k + 1) (ys := txts (id + 100000) k ++ [.string (textF (id + 100000) (k : Int))]) (htx.keep hb) (by rw [← List.append_assoc]; exact hown) hgr hat hA
  refine ⟨hk, hi, ⟨some ⟨g, 0, none⟩, cap, ?_, ?_, ?_⟩, ?_, ?_⟩
  · rw [heap_setCell_same hpg5, Array.setIfInBounds_setIfInBounds]
    rfl
  · rw [txts_succ, ← List.append_assoc]
    exact hown2
  · intro q e
    obtain rfl : g = q := Option.some.inj e
    rcases hat with h | ⟨h, _⟩
    · exact hgb g h
    · exact .inr (by omega)
  · obtain ⟨A', c', hf, hx⟩ := htx5
    injection hf with h1 _ h2
    subst h1 h2
    refine ⟨A, c, rfl, fun j hj => ?_⟩
    obtain ⟨ad, e1, hl, hc⟩ := hx j hj
    refine ⟨ad, e1, by rw [World.size_setCell]; exact hl, ?_⟩
    rw [← hc]
    refine World.cell?_of_block ?_
    rw [block_add]
    refine hset _ (hne _ ?_)
    rw [e1]
    rfl
  · refine ((hch.below hb).grown hgr fun q e => ?_).setCell (p := ⟨pb, po + 1, none⟩) (.inl (.inl rfl)) _
    rcases hgb q e with h | h
    · exact .inl (.inr h)
    · exact .inr h
set_option maxRecDepth 100000 in
set_option maxHeartbeats 4000000 in
theorem grow_any {w : World} {pb po c : Nat} {cs : Array Value} {pt : TypeId} {A : Option Addr} {id : Int} {l : List ByteArray} {G0 : Value} (hp : w.heap[pb]? = some (.cells cs pt (0, 0)))
    (h0 : cs[po]? = some (.slice A l.length c)) (h1 : cs[po + 1]? = some G0) (h3 : cs[po + 3]? = some (.int .i64 id)) (hown : w.ownsRow 0 9 1 (.slice A l.length c) l.length (l.map Value.string))
    (hne : ∀ q, (Value.slice A l.length c).ownBlock = some q → q ≠ pb) (hn : l.length ≤ 1048576) (hid : 0 ≤ id ∧ id ≤ 1048576) (hpow : ∀ W, Ch (fun q => q = pb ∨ (Value.slice A l.length c).ownBlock = some q) w W → Pow W) :
    Calls Tryz.prog 31 #[.pointer (some ⟨pb, po, none⟩)] w fun e w' => e = .returned (.tuple #[]) ∧ ∃ g cap, w'.heap[pb]? = some (.cells (cs.setIfInBounds (po + 1) (.slice (some ⟨g, 0, none⟩) (l.length + 64) cap)) pt (0, 0)) ∧
      w'.ownsRow 0 9 1 (.slice (some ⟨g, 0, none⟩) (l.length + 64) cap) (l.length + 64) (l.map Value.string ++ txts (id + 100000) 64) ∧ ((Value.slice A l.length c).ownBlock = some g ∨ w.heap.size ≤ g) ∧
      TxtAt w' (.slice A l.length c) l ∧ Ch (fun q => q = pb ∨ (Value.slice A l.length c).ownBlock = some q) w w' := by
  obtain ⟨is, his, his0, his1, his2⟩ := info_parts info_str
  have hA : ∀ ad, A = some ad → ad = ⟨ad.block, 0, none⟩ := fun ad e => by
    rcases hown.2 with ⟨hv, _⟩ | ⟨g, cap, cur, hv, _⟩
    · rw [e] at hv; cases hv
    · rw [e] at hv; injection hv with h _ _; injection h with h; rw [h]
  have hpl := heap_lt hp
  have p0 : w.cell? ⟨pb, po, none⟩ = some (.slice A l.length c) := by rw [cell_of_blk hp]; exact h0
  have p1 : w.cell? ⟨pb, po + 1, none⟩ = some G0 := by rw [cell_of_blk hp]; exact h1
  have f1 := frozen_blk hp (po + 1)
  have HI := Lib.hid (show GrowInv w pb po cs pt (.slice A l.length c) l id (.int .i64 0) (w.setCell ⟨pb, po + 1, none⟩ (.slice A l.length c)) 0 from
    ⟨Nat.zero_le _, rfl, ⟨A, c, heap_setCell_same (i := po + 1) hp _, by
      have := ownsRow_keep (w' := w.setCell ⟨pb, po + 1, none⟩ (.slice A l.length c)) hown fun q e => Below.heap_setCell _ _ _ _ (hne q e)
      simpa [txts, marksL] using this, fun q e => .inl e⟩, TxtAt.own (ownsRow_keep (w' := w.setCell ⟨pb, po + 1, none⟩ (.slice A l.length c)) hown fun q e => Below.heap_setCell _ _ _ _ (hne q e)),
      (Ch.refl _ w).setCell (p := ⟨pb, po + 1, none⟩) (.inl (.inl rfl)) _⟩)
  have HC := Lib.hid (And.intro h1 h3)
  have HNE := Lib.hid hne
  have HPOW := Lib.hid hpow
  have HA := Lib.hid hA
  clear hp h0 h1 h3 hown hne hpow hA
  go_enter Tryz.func31, Tryz.ntmps31
  go_wp2
  clear p0 p1 f1
  go_loopw [2] (fun i wr => ∃ k : Nat, GrowInv w pb po cs pt (.slice A l.length c) l id i wr k) (fun i _ => 64 - (intOf i).toNat)
  case atStart => exact ⟨0, HI.out⟩
  case round =>
    obtain ⟨k, hk, rfl, ⟨GA, gc, hpg, hrow, hgb⟩, htx, hch⟩ := hrel
    by_cases hlt : k < 64
    · have hblr : pb < wr.drew.heap.size := heap_lt hpg
      have hcell : ∀ W : World, W.heap[pb]? = wr.heap[pb]? → W.cell? ⟨pb, po + 1, none⟩ = some (.slice GA (l.length + k) gc) ∧ W.cell? ⟨pb, po + 3, none⟩ = some (.int .i64 id) := fun W hW => by
        rw [cell_of_blk (hW.trans hpg), cell_of_blk (hW.trans hpg)]
        refine ⟨?_, ?_⟩
        · rw [Array.getElem?_setIfInBounds, if_pos rfl, if_pos (Array.getElem?_eq_some_iff.1 HC.out.1).1]
        · rw [Array.getElem?_setIfInBounds, if_neg (by omega)]
          exact HC.out.2
      have HSP := Lib.hid hcell
      have HS := Lib.hid (fun W (hb : Below wr.drew.heap.size wr.drew W) => hcell W (hb.block pb hblr))
      have HOWN := Lib.hid (fun W (hb : Below wr.drew.heap.size wr.drew W) => ownsRow_keep (w' := W) hrow fun q e => hb.block q (hrow.lt q e).2)
      have HGP := Lib.hid (show ∀ q, (Value.slice GA (l.length + k) gc).ownBlock = some q → pb = q → False from fun q e e2 => by
        rcases hgb q e with h | h
        · exact HNE.out q h e2.symm
        · omega)
      have HPG := Lib.hid hpg
      have HTX := Lib.hid htx
      have HCH := Lib.hid hch
      have HGB := Lib.hid hgb
      have hbh := behind_any wr.drew id hid
      have hmk := markTexts_any wr.drew (HPOW.out wr.drew hch.drew) (id + 100000) (k : Int) ⟨by omega, by omega⟩ ⟨by omega, by omega⟩
      have hHeld := HS.out wr.drew (Below.refl _ _)
      have hmu : 64 - ((k : Int) + 1).toNat < 64 - k := by omega
      have hwk : wrap64 ((k : Int) + 1) = (k : Int) + 1 := by unfold wrap64; omega
      have HR63 := Lib.hid (room63 (k := k) hn hlt)
      have HR47 := Lib.hid (room47 (k := k) hn hlt)
      clear hrow hcell hch hpg htx hgb hn
      go_wp2
      refine wp_region_n (n := 16) (S := fun w' => w'.cell? ⟨pb, po + 1, none⟩ = some (.slice GA (l.length + k) gc) ∧ w'.cell? ⟨pb, po + 3, none⟩ = some (.int .i64 id)) (by kernel_rfl) ?_
      refine wpAnyN_take (i := 0) (v := ?_) rfl (by kernel_rfl) (by kernel_rfl) (by kernel_rfl) (by kernel_rfl) (fun _ _ _ h => h) (Or.inl ⟨by kernel_rfl, ?y12⟩) hHeld ?_
      case y12 =>
        intro w0 hSw
        (try dsimp only at hSw)
        go_simp
        try with_reducible rfl
      try simp only [Act.put, qa5, qb5, qc5, qd5, qe5, qf5]
      refine wpAnyN_take (i := 1) (v := ?_) rfl (by kernel_rfl) (by kernel_rfl) (by kernel_rfl) (by kernel_rfl) (fun _ _ _ h => h) (Or.inl ⟨by kernel_rfl, ?y13⟩) hHeld ?_
      case y13 =>
        intro w0 hSw
        (try dsimp only at hSw)
        go_simp
        try with_reducible rfl
      try simp only [Act.put, qa5, qb5, qc5, qd5, qe5, qf5]
      refine wpAnyN_take (i := 2) (v := ?_) rfl (by kernel_rfl) (by kernel_rfl) (by kernel_rfl) (by kernel_rfl) (fun _ _ _ h => h) (Or.inl ⟨by kernel_rfl, ?y14⟩) hHeld ?_
      case y14 =>
        intro w0 hSw
        (try dsimp only at hSw)
        go_simp
        try with_reducible rfl
      try simp only [Act.put, qa5, qb5, qc5, qd5, qe5, qf5]
      refine wpAnyN_take (i := 3) (v := ?_) rfl (by kernel_rfl) (by kernel_rfl) (by kernel_rfl) (by kernel_rfl) (fun _ _ _ h => h) (Or.inl ⟨by kernel_rfl, ?y15⟩) hHeld ?_
      case y15 =>
        intro w0 hSw
        (try dsimp only at hSw)
        go_simp
        try with_reducible rfl
      try simp only [Act.put, qa5, qb5, qc5, qd5, qe5, qf5]
      refine wpAnyN_take (i := 4) (v := ?_) rfl (by kernel_rfl) (by kernel_rfl) (by kernel_rfl) (by kernel_rfl) (fun _ _ _ h => h) (Or.inl ⟨by kernel_rfl, ?y16⟩) hHeld ?_
      case y16 =>
        intro w0 hSw
        (try dsimp only at hSw)
        go_simp
        try with_reducible rfl
      try simp only [Act.put, qa5, qb5, qc5, qd5, qe5, qf5]
      refine wpAnyN_take (i := 5) (v := ?_) rfl (by kernel_rfl) (by kernel_rfl) (by kernel_rfl) (by kernel_rfl) (fun _ _ _ h => h) (Or.inl ⟨by kernel_rfl, ?y17⟩) hHeld ?_
      case y17 =>
        intro w0 hSw
        (try dsimp only at hSw)
        go_simp
        try with_reducible rfl
      try simp only [Act.put, qa5, qb5, qc5, qd5, qe5, qf5]
      refine wpAnyN_take (i := 6) (v := ?_) rfl (by kernel_rfl) (by kernel_rfl) (by kernel_rfl) (by kernel_rfl) (fun _ _ _ h => h) (Or.inl ⟨by kernel_rfl, ?y18⟩) hHeld ?_
      case y18 =>
        intro w0 hSw
        (try dsimp only at hSw)
        go_simp
        try with_reducible rfl
      try simp only [Act.put, qa5, qb5, qc5, qd5, qe5, qf5]
      refine wpAnyN_take (i := 7) (v := ?_) rfl (by kernel_rfl) (by kernel_rfl) (by kernel_rfl) (by kernel_rfl) (fun _ _ _ h => h) (Or.inl ⟨by kernel_rfl, ?y19⟩) hHeld ?_
      case y19 =>
        intro w0 hSw
        (try dsimp only at hSw)
        go_simp
        try with_reducible rfl
      try simp only [Act.put, qa5, qb5, qc5, qd5, qe5, qf5]
      refine wpAnyN_take (i := 8) (v := ?_) rfl (by kernel_rfl) (by kernel_rfl) (by kernel_rfl) (by kernel_rfl) (fun _ _ _ h => h) (Or.inl ⟨by kernel_rfl, ?y20⟩) hHeld ?_
      case y20 =>
        intro w0 hSw
        (try dsimp only at hSw)
        go_simp
        try with_reducible rfl
      try simp only [Act.put, qa5, qb5, qc5, qd5, qe5, qf5]
      refine wpAnyN_take (i := 10) (v := ?_) rfl (by kernel_rfl) (by kernel_rfl) (by kernel_rfl) (by kernel_rfl) (fun _ _ _ h => h) (Or.inl ⟨by kernel_rfl, ?y21⟩) hHeld ?_
      case y21 =>
        intro w0 hSw
        (try dsimp only at hSw)
        go_simp
        try with_reducible rfl
      try simp only [Act.put, qa5, qb5, qc5, qd5, qe5, qf5]
      refine wpAnyN_step (i := 9) (by kernel_rfl) rfl (fun K hK => ?_)
      go_simp
      go_at_call 87
      refine (hbh).mono ?_
      rintro en wn ⟨rfl, hwn⟩
      have hwn := hwn.symm
      subst hwn
      clear hbh
      go_wp2_with fail
      refine hK.out _ _ (fun _ => hHeld) ?_
      clear hK K
      try simp only [Act.put, qa5, qb5, qc5, qd5, qe5, qf5]
      refine wpAnyN_step (i := 11) (by kernel_rfl) rfl (fun K hK => ?_)
      go_simp
      go_at_call 86
      refine (hmk).mono ?_
      rintro en wx ⟨rfl, hbx⟩
      have hHeld := HS.out wx hbx
      clear hmk
      go_wp2_with fail
      refine hK.out _ _ (fun _ => hHeld) ?_
      clear hK K
      try simp only [Act.put, qa5, qb5, qc5, qd5, qe5, qf5]
      refine wpAnyN_step (i := 12) (by kernel_rfl) rfl (fun K hK => ?_)
      go_simp
      have hbw := hbx.alloc hbx.size (.cells #[.string (textF (id + 100000) k)] 9)
      refine hK.out _ _ (fun _ => HS.out _ hbw) ?_
      clear hK K
      try simp only [Act.put, qa5, qb5, qc5, qd5, qe5, qf5]
      refine wpAnyN_step (i := 13) (by kernel_rfl) rfl (fun K hK => ?_)
      refine step_append_keeps rfl _ _ 50 rfl 0 9 is (.string ByteArray.empty) 1 16 Tryz.underlying50 his his0 his1 his2 rfl (by decide) (.slice GA (l.length + k) gc) (l.length + k) _ (by simp [Act.eval, Act.put]) (HOWN.out _ hbw) ⟨wx.heap.size, 0, none⟩ 1 1 [.string (textF (id + 100000) k)] (by simp [Act.eval, Act.put]) rfl (World.news_of_block (World.alloc_heap_new wx _)) (by simp [Value.oneCell']) (by decide) HR63.out HR47.out (Nat.zero_le _) ?_
      intro g cap w5 hown5 hgrow5 hat5
      have hpg5 := hgrow5.block pb (by have := hbw.size; exact Nat.lt_of_lt_of_le hblr this) (fun e => HGP.out _ e.symm rfl)
      have hHeld5 := HSP.out w5 (hpg5.trans (hbw.block pb hblr))
      refine hK.out _ _ (fun _ => hHeld5) ?_
      clear hK K
      try simp only [Act.put, qa5, qb5, qc5, qd5, qe5, qf5]
      have hHeld := hHeld5
      refine wpAnyN_step (i := 14) (by kernel_rfl) rfl (fun K hK => ?_)
      go_simp
      refine hK.out _ _ (fun _ => hHeld) ?_
      clear hK K
      try simp only [Act.put, qa5, qb5, qc5, qd5, qe5, qf5]
      refine wpAnyN_step (i := 15) (by kernel_rfl) rfl (fun K hK => ?_)
      go_simp
      refine hK.out _ _ (fun _ => hHeld) ?_
      clear hK K
      try simp only [Act.put, qa5, qb5, qc5, qd5, qe5, qf5]
      refine wpAnyN_step (i := 16) (by kernel_rfl) rfl (fun K hK => ?_)
      have f5 := frozen_blk (hpg5.trans ((hbw.block pb hblr).trans HPG.out)) (po + 1)
      go_simp
      refine hK.out _ _ (fun h => absurd h (by decide)) ?_
      clear hK K
      try simp only [Act.put, qa5, qb5, qc5, qd5, qe5, qf5]
      refine wpAnyN_done (by kernel_rfl) ?_ _
      have HG := Lib.hid (grow_next (i' := .int .i64 ((k : Int) + 1)) rfl hlt HPG.out ⟨hbw.os, hbw.tape, hbw.output, hbw.size, hbw.block⟩ HTX.out HCH.out HGB.out HGP.out HA.out HNE.out hown5 hgrow5 hat5)
      clear hown5 hgrow5 hat5 hHeld
      go_wp2
      go_roundw
      case rel => exact ⟨k + 1, by as_aux_lemma => exact HG.out⟩
      case measure => simpa [intOf] using hmu
    · obtain rfl : k = 64 := by omega
      have hGA : ∃ g, GA = some ⟨g, 0, none⟩ := by
        rcases hrow.2 with ⟨hv, h0⟩ | ⟨g, cap, cur, hv, _⟩
        · omega
        · injection hv with e1 _ _; exact ⟨g, e1⟩
      obtain ⟨g, rfl⟩ := hGA
      have HF := Lib.hid (And.intro hpg (And.intro hrow (And.intro (hgb g rfl) (And.intro htx hch))))
      clear hpg hrow hgb htx hch
      go_wp2
      go_end0
      exact ⟨rfl, g, gc, HF.out.1, HF.out.2.1, HF.out.2.2.1, HF.out.2.2.2.1, HF.out.2.2.2.2⟩
end Go.Proofs.YtplocldnklccfaaGreatDoor
