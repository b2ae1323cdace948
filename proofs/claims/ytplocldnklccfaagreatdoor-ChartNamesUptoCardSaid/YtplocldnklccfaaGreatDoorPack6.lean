/- daybookkeep: a page shows what it ought to. Printed by gen_keepshow.py; daybookkeep: the lists of texts of a book: in memory, and one of them looked at; daybookkeep: all lists of texts written over, appended to, looked at. -/
import Derived.Test.YtplocldnklccfaaGreatDoorPack5
import Derived.Test.YtplocldnklccfaaGreatDoorPack1
namespace Go.Proofs.YtplocldnklccfaaGreatDoor
theorem qa6 {T : Type} (l : List T) (i : Nat) (a : T) : l.toArray.setIfInBounds i a = (l.set i a).toArray := List.setIfInBounds_toArray l i a
theorem qb6 {T : Type} {x : T} {xs : List T} {a : T} : (x :: xs).set 0 a = a :: xs := List.set_cons_zero
theorem qc6 {T : Type} {x : T} {xs : List T} {i : Nat} {a : T} : (x :: xs).set (i + 1) a = x :: xs.set i a := List.set_cons_succ
theorem qd6 {T : Type} {xs : List T} {i : Nat} (h : i < xs.toArray.size) : xs.toArray[i] = xs[i]'(by simpa using h) := List.getElem_toArray h
theorem qe6 {T : Type} (a : T) (ys : List T) (i : Nat) (h : i + 1 < (a :: ys).length) : (a :: ys)[i + 1] = ys[i]'(by simpa using h) := List.getElem_cons_succ a ys i h
theorem qf6 {T : Type} (a : T) (ys : List T) (h : 0 < (a :: ys).length) : (a :: ys)[0] = a := List.getElem_cons_zero a ys h
open Go.RowKit
set_option linter.unusedVariables false
set_option linter.unusedSimpArgs false

theorem sameT_one (r : ByteArray) (W : World) : Calls Tryz.prog 230 #[.string r, .string r] W fun e w' => e = .returned (.bool true) ∧ w' = W := by
  have h := sameT_any W r r
  rw [beq_self_eq_true] at h
  exact h
theorem meas_up (n k : Nat) (h : k < n) : n - ((k : Int) + 1).toNat < n - k := by omega
theorem wrap_up (k : Nat) (h : k ≤ 4194304) : wrap64 ((k : Int) + 1) = (k : Int) + 1 := by unfold wrap64; omega
theorem wrap_down (n k : Nat) (hk : n ≤ k) (h : k ≤ 4194304) : wrap64 ((k : Int) - (n : Int)) = (k : Int) - (n : Int) := by unfold wrap64; omega
theorem wrap_down' (n k : Nat) (hk : n ≤ k) (h : k ≤ 4194304) : IntKind.i64.wrap ((k : Int) - (n : Int)) = (k : Int) - (n : Int) := IntWalk.i64_in _ (by omega)
theorem TxtAt.at_ {w : World} {A : Option Addr} {n c : Nat} {xs : List ByteArray} (h : TxtAt w (.slice A n c) xs) : ∀ j (hj : j < xs.length), ∃ ad, A = some ad ∧ ad.block < w.heap.size ∧ w.cell? (ad.add j) = some (.string xs[j]) := by
  obtain ⟨A', c', hf, hx⟩ := h
  injection hf with h1 h2 _
  subst h1
  exact hx
theorem cell_old {w w' : World} {ad : Addr} {j : Nat} {v : Value} {o : Obj} (hc : w.cell? (ad.add j) = some v) (hl : ad.block < w.heap.size) (hb : Below (w.alloc o).heap.size (w.alloc o) w') : w'.cell? (ad.add j) = some v := by
  rw [← hc]
  refine World.cell?_of_block ?_
  rw [block_add]
  exact (hb.block _ (by rw [World.size_alloc]; omega)).trans (Below.heap_alloc w o _ hl)
theorem cell_box {w w' : World} {cs : Array Value} {t : TypeId} (j : Nat) (hb : Below (w.alloc (.cells cs t (0, 0))).heap.size (w.alloc (.cells cs t (0, 0))) w') : w'.cell? ⟨w.heap.size, j, none⟩ = cs[j]? := by
  have h : w'.heap[w.heap.size]? = some (.cells cs t (0, 0)) := by
    rw [hb.block w.heap.size (by rw [World.size_alloc]; omega)]
    exact World.alloc_heap_new w _
  exact cell_of_blk h
theorem box_below {w w' : World} {o : Obj} (hb : Below (w.alloc o).heap.size (w.alloc o) w') : Below w.heap.size w w' :=
  (bel1 w o).trans (hb.mono (by rw [World.size_alloc]; omega))

theorem and_range {id : Int} (h : 0 ≤ id ∧ id ≤ 1048576) : -9223372036854775808 ≤ id ∧ id ≤ 9223372036854775807 := by omega
theorem and_range2 {id : Int} (h : 0 ≤ id ∧ id ≤ 1048576) : -9223372036854775808 ≤ id + 100000 ∧ id + 100000 ≤ 9223372036854775807 := by omega
theorem nat_range (k : Nat) (h : k ≤ 4194304) : -9223372036854775808 ≤ (k : Int) ∧ (k : Int) ≤ 9223372036854775807 := by omega
theorem sub_range (n k : Nat) (hk : n ≤ k) (h : k ≤ 4194304) : -9223372036854775808 ≤ (k : Int) - (n : Int) ∧ (k : Int) - (n : Int) ≤ 9223372036854775807 := by omega

set_option maxRecDepth 100000 in
set_option maxHeartbeats 4000000 in
theorem shows_kept {w : World} {A B : Option Addr} {c d : Nat} {id : Int} {xs : List ByteArray} (hL : TxtAt w (.slice A xs.length c) xs) (hW : TxtAt w (.slice B xs.length d) xs) (hn : xs.length ≤ 1048576) :
    Calls Tryz.prog 173 #[.agg #[.slice A xs.length c, .slice none 0 0, .slice B xs.length d, .int .i64 id, .bool false]] w fun e w' => e = .returned (.bool true) ∧ Below w.heap.size w w' := by
  have HX := Lib.hid hL.at_
  have HX' := Lib.hid hW.at_
  clear hL hW
  go_enter Tryz.func173, Tryz.ntmps173
  go_wp2
  obtain ⟨wa, hwa⟩ : ∃ wa, wa = w.alloc (.cells #[.slice A xs.length c, .slice none 0 0, .slice B xs.length d, .int .i64 id, .bool false] 68) := ⟨_, rfl⟩
  have HWA := Lib.hid hwa
  rw [← hwa]
  clear hwa
  have HC := Lib.hid (fun W (hb : Below wa.heap.size wa W) => (show W.cell? ⟨w.heap.size, 0, none⟩ = some (.slice A xs.length c) ∧ W.cell? ⟨w.heap.size, 1, none⟩ = some (.slice none 0 0) ∧ W.cell? ⟨w.heap.size, 2, none⟩ = some (.slice B xs.length d) ∧ W.cell? ⟨w.heap.size, 3, none⟩ = some (.int .i64 id) ∧ W.cell? ⟨w.heap.size, 4, none⟩ = some (.bool false) from by rw [HWA.out] at hb; exact ⟨cell_box 0 hb, cell_box 1 hb, cell_box 2 hb, cell_box 3 hb, cell_box 4 hb⟩))
  go_loopw [4] (fun i wr => ∃ k : Nat, i = .int .i64 (k : Int) ∧ k ≤ xs.length ∧ Below wa.heap.size wa wr) (fun i _ => xs.length - (intOf i).toNat)
  case atStart => exact ⟨0, rfl, Nat.zero_le _, Below.refl _ _⟩
  case round =>
    obtain ⟨k, rfl, hk, hbr⟩ := hrel
    by_cases hlt : k < xs.length
    · obtain ⟨ad, rfl, hl, hc⟩ := HX.out k hlt
      have hmu := meas_up xs.length k hlt
      have hwk := wrap_up k (by omega)
      have HE := Lib.hid (fun W (hb : Below wa.heap.size wa W) => (show W.cell? (ad.add k) = some (.string xs[k]) from by rw [HWA.out] at hb; exact cell_old hc hl hb))
      obtain ⟨ad', rfl, hl', hc'⟩ := HX'.out k hlt
      have HE' := Lib.hid (fun W (hb : Below wa.heap.size wa W) => (show W.cell? (ad'.add k) = some (.string xs[k]) from by rw [HWA.out] at hb; exact cell_old hc' hl' hb))
      have e0 := HE.out wr hbr
      have e1 := HE'.out wr hbr
      obtain ⟨r, hr⟩ : ∃ r, r = xs[k] := ⟨_, rfl⟩
      rw [← hr] at e0 e1
      obtain ⟨c0, c1, c2, c3, c4⟩ := HC.out wr hbr
      clear hr hc hc' hl hl'
      go_wp2
      go_quiet ((go_at_call 230; refine Calls.quiet_of_same (sameT_one _ _)))
      go_wp2
      go_quiet (fail)
      go_wp2
      go_roundw
      case rel => exact ⟨k + 1, by go_num, by omega, by repeat (first | exact hbr | refine below_drewN ?_ _)⟩
      case measure => simpa [intOf] using hmu
    · obtain rfl : k = xs.length := by omega
      obtain ⟨c0, c1, c2, c3, c4⟩ := HC.out wr hbr
      go_wp2
      obtain ⟨w8, h8⟩ : ∃ w8, w8 = wr := ⟨_, rfl⟩
      subst h8
      go_loopw [5] (fun i wr => i = .int .i64 (xs.length : Int) ∧ Below wa.heap.size wa wr) (fun _ _ => 0)
      case atStart => exact ⟨rfl, hbr⟩
      case round =>
        obtain ⟨rfl, hbr⟩ := hrel
        obtain ⟨c0, c1, c2, c3, c4⟩ := HC.out wr hbr
        have hnn : ¬ ((xs.length : Int) < 0) := by omega
        go_wp2
        go_ret
        exact ⟨rfl, box_below (by rw [HWA.out] at hbr; repeat (first | exact hbr | refine below_drewN ?_ _))⟩


set_option maxRecDepth 100000 in
set_option maxHeartbeats 4000000 in
theorem shows_filled {w : World} {A : Option Addr} {V : Value} {c : Nat} {id : Int} {xs : List ByteArray} (hL : TxtAt w (.slice A xs.length c) xs) (hxs : ∀ j (hj : j < xs.length), xs[j] = textF id (j : Int)) (hn : xs.length ≤ 1048576) (hid : 0 ≤ id ∧ id ≤ 1048576) (hp : Pow w) :
    Calls Tryz.prog 173 #[.agg #[.slice A xs.length c, .slice none 0 0, V, .int .i64 id, .bool true]] w fun e w' => e = .returned (.bool true) ∧ Below w.heap.size w w' := by
  have HX := Lib.hid hL.at_
  have HP := Lib.hid hp
  have HXS := Lib.hid hxs
  clear hL hp hxs
  go_enter Tryz.func173, Tryz.ntmps173
  go_wp2
  obtain ⟨wa, hwa⟩ : ∃ wa, wa = w.alloc (.cells #[.slice A xs.length c, .slice none 0 0, V, .int .i64 id, .bool true] 68) := ⟨_, rfl⟩
  have HWA := Lib.hid hwa
  rw [← hwa]
  clear hwa
  have HC := Lib.hid (fun W (hb : Below wa.heap.size wa W) => (show W.cell? ⟨w.heap.size, 0, none⟩ = some (.slice A xs.length c) ∧ W.cell? ⟨w.heap.size, 1, none⟩ = some (.slice none 0 0) ∧ W.cell? ⟨w.heap.size, 2, none⟩ = some (V) ∧ W.cell? ⟨w.heap.size, 3, none⟩ = some (.int .i64 id) ∧ W.cell? ⟨w.heap.size, 4, none⟩ = some (.bool true) from by rw [HWA.out] at hb; exact ⟨cell_box 0 hb, cell_box 1 hb, cell_box 2 hb, cell_box 3 hb, cell_box 4 hb⟩))
  go_loopw [4] (fun i wr => ∃ k : Nat, i = .int .i64 (k : Int) ∧ k ≤ xs.length ∧ Below wa.heap.size wa wr) (fun i _ => xs.length - (intOf i).toNat)
  case atStart => exact ⟨0, rfl, Nat.zero_le _, Below.refl _ _⟩
  case round =>
    obtain ⟨k, rfl, hk, hbr⟩ := hrel
    by_cases hlt : k < xs.length
    · obtain ⟨ad, rfl, hl, hc⟩ := HX.out k hlt
      have hmu := meas_up xs.length k hlt
      have hwk := wrap_up k (by omega)
      have HE := Lib.hid (fun W (hb : Below wa.heap.size wa W) => (show W.cell? (ad.add k) = some (.string xs[k]) from by rw [HWA.out] at hb; exact cell_old hc hl hb))
      simp only [HXS.out k hlt] at HE
      have e0 := HE.out wr hbr
      obtain ⟨c0, c1, c2, c3, c4⟩ := HC.out wr hbr
      clear hc hl
      go_wp2
      go_quiet (fail)
      go_wp2
      obtain ⟨wq, hwq⟩ : ∃ wq, wq = wr.drewN nq := ⟨_, rfl⟩
      rw [← hwq]
      have hbq : Below wa.heap.size wa wq := by rw [hwq]; exact below_drewN hbr _
      clear hwq c0 c1 c2 c3 c4 e0 hbr
      have HP2 := Lib.hid (fun W (hb : Below wq.drew.heap.size wq.drew W) => (show Pow W from (HP.out.below (box_below (by rw [← HWA.out]; exact hbq.trans (show Below wa.heap.size wq W from ⟨hb.os, hb.tape, hb.output, hb.size, fun q hq => hb.block q (Nat.lt_of_lt_of_le hq hbq.size)⟩))))))
      have HUP := Lib.hid (fun W (hb : Below wq.drew.heap.size wq.drew W) => (show Below wa.heap.size wa W from hbq.trans ⟨hb.os, hb.tape, hb.output, hb.size, fun q hq => hb.block q (Nat.lt_of_lt_of_le hq hbq.size)⟩))
      have HS := Lib.hid (fun W (hb : Below wq.drew.heap.size wq.drew W) => (show W.cell? ⟨w.heap.size, 0, none⟩ = some (.slice (some ad) xs.length c) ∧ W.cell? ⟨w.heap.size, 1, none⟩ = some (.slice none 0 0) ∧ W.cell? ⟨w.heap.size, 3, none⟩ = some (.int .i64 id) ∧ W.cell? ⟨w.heap.size, 4, none⟩ = some (.bool true) ∧ W.cell? (ad.add k) = some (.string (textF id (k : Int))) from by
        obtain ⟨c0, c1, c2, c3, c4⟩ := HC.out W (HUP.out W hb)
        exact ⟨c0, c1, c3, c4, HE.out _ (HUP.out W hb)⟩))
      have hHeld := HS.out wq.drew (Below.refl _ _)
      have hmk := markTexts_any wq.drew (HP2.out _ (Below.refl _ _)) id (k : Int) (and_range hid) (nat_range k (by omega))
      refine wp_region_n (n := 34) (S := fun w' => w'.cell? ⟨w.heap.size, 0, none⟩ = some (.slice (some ad) xs.length c) ∧ w'.cell? ⟨w.heap.size, 1, none⟩ = some (.slice none 0 0) ∧ w'.cell? ⟨w.heap.size, 3, none⟩ = some (.int .i64 id) ∧ w'.cell? ⟨w.heap.size, 4, none⟩ = some (.bool true) ∧ w'.cell? (ad.add k) = some (.string (textF id (k : Int)))) (by kernel_rfl) ?_
      refine wpAnyN_take (i := 0) (v := ?_) rfl (by kernel_rfl) (by kernel_rfl) (by kernel_rfl) (by kernel_rfl) (fun _ _ _ h => h) (Or.inl ⟨by kernel_rfl, ?y1⟩) hHeld ?_
      case y1 =>
        intro w0 hSw
        (try dsimp only at hSw)
        go_simp
        try with_reducible rfl
      try simp only [Act.put, qa6, qb6, qc6, qd6, qe6, qf6]
      refine wpAnyN_take (i := 1) (v := ?_) rfl (by kernel_rfl) (by kernel_rfl) (by kernel_rfl) (by kernel_rfl) (fun _ _ _ h => h) (Or.inl ⟨by kernel_rfl, ?y2⟩) hHeld ?_
      case y2 =>
        intro w0 hSw
        (try dsimp only at hSw)
        go_simp
        try with_reducible rfl
      try simp only [Act.put, qa6, qb6, qc6, qd6, qe6, qf6]
      refine wpAnyN_take (i := 2) (v := ?_) rfl (by kernel_rfl) (by kernel_rfl) (by kernel_rfl) (by kernel_rfl) (fun _ _ _ h => h) (Or.inl ⟨by kernel_rfl, ?y3⟩) hHeld ?_
      case y3 =>
        intro w0 hSw
        (try dsimp only at hSw)
        go_simp
        try with_reducible rfl
      try simp only [Act.put, qa6, qb6, qc6, qd6, qe6, qf6]
      refine wpAnyN_take (i := 3) (v := ?_) rfl (by kernel_rfl) (by kernel_rfl) (by kernel_rfl) (by kernel_rfl) (fun _ _ _ h => h) (Or.inl ⟨by kernel_rfl, ?y4⟩) hHeld ?_
      case y4 =>
        intro w0 hSw
        (try dsimp only at hSw)
        go_simp
        try with_reducible rfl
      try simp only [Act.put, qa6, qb6, qc6, qd6, qe6, qf6]
      refine wpAnyN_take (i := 4) (v := ?_) rfl (by kernel_rfl) (by kernel_rfl) (by kernel_rfl) (by kernel_rfl) (fun _ _ _ h => h) (Or.inl ⟨by kernel_rfl, ?y5⟩) hHeld ?_
      case y5 =>
        intro w0 hSw
        (try dsimp only at hSw)
        go_simp
        try with_reducible rfl
      try simp only [Act.put, qa6, qb6, qc6, qd6, qe6, qf6]
      refine wpAnyN_take (i := 5) (v := ?_) rfl (by kernel_rfl) (by kernel_rfl) (by kernel_rfl) (by kernel_rfl) (fun _ _ _ h => h) (Or.inl ⟨by kernel_rfl, ?y6⟩) hHeld ?_
      case y6 =>
        intro w0 hSw
        (try dsimp only at hSw)
        go_simp
        try with_reducible rfl
      try simp only [Act.put, qa6, qb6, qc6, qd6, qe6, qf6]
      refine wpAnyN_take (i := 6) (v := ?_) rfl (by kernel_rfl) (by kernel_rfl) (by kernel_rfl) (by kernel_rfl) (fun _ _ _ h => h) (Or.inl ⟨by kernel_rfl, ?y7⟩) hHeld ?_
      case y7 =>
        intro w0 hSw
        (try dsimp only at hSw)
        go_simp
        try with_reducible rfl
      try simp only [Act.put, qa6, qb6, qc6, qd6, qe6, qf6]
      refine wpAnyN_take (i := 7) (v := ?_) rfl (by kernel_rfl) (by kernel_rfl) (by kernel_rfl) (by kernel_rfl) (fun _ _ _ h => h) (Or.inl ⟨by kernel_rfl, ?y8⟩) hHeld ?_
      case y8 =>
        intro w0 hSw
        (try dsimp only at hSw)
        go_simp
        try with_reducible rfl
      try simp only [Act.put, qa6, qb6, qc6, qd6, qe6, qf6]
      refine wpAnyN_take (i := 8) (v := ?_) rfl (by kernel_rfl) (by kernel_rfl) (by kernel_rfl) (by kernel_rfl) (fun _ _ _ h => h) (Or.inl ⟨by kernel_rfl, ?y9⟩) hHeld ?_
      case y9 =>
        intro w0 hSw
        (try dsimp only at hSw)
        go_simp
        try with_reducible rfl
      try simp only [Act.put, qa6, qb6, qc6, qd6, qe6, qf6]
      refine wpAnyN_take (i := 9) (v := ?_) rfl (by kernel_rfl) (by kernel_rfl) (by kernel_rfl) (by kernel_rfl) (fun _ _ _ h => h) (Or.inl ⟨by kernel_rfl, ?y10⟩) hHeld ?_
      case y10 =>
        intro w0 hSw
        (try dsimp only at hSw)
        go_simp
        try with_reducible rfl
      try simp only [Act.put, qa6, qb6, qc6, qd6, qe6, qf6]
      refine wpAnyN_take (i := 10) (v := ?_) rfl (by kernel_rfl) (by kernel_rfl) (by kernel_rfl) (by kernel_rfl) (fun _ _ _ h => h) (Or.inl ⟨by kernel_rfl, ?y11⟩) hHeld ?_
      case y11 =>
        intro w0 hSw
        (try dsimp only at hSw)
        go_simp
        try with_reducible rfl
      try simp only [Act.put, qa6, qb6, qc6, qd6, qe6, qf6]
      refine wpAnyN_step (i := 11) (by kernel_rfl) rfl (fun K hK => ?_)
      go_simp
      go_at_call 86
      refine (hmk).mono ?_
      rintro en wx ⟨rfl, hbx⟩
      have hHeld := HS.out wx (hbx)
      clear hmk
      go_wp2_with fail
      refine hK.out _ _ (fun _ => hHeld) ?_
      clear hK K
      try simp only [Act.put, qa6, qb6, qc6, qd6, qe6, qf6]
      refine wpAnyN_step (i := 12) (by kernel_rfl) rfl (fun K hK => ?_)
      go_simp
      go_at_call 230
      refine (sameT_one _ _).mono ?_
      rintro en wn ⟨rfl, hwn⟩
      have hwn := hwn.symm
      subst hwn
      go_wp2_with fail
      refine hK.out _ _ (fun _ => hHeld) ?_
      clear hK K
      try simp only [Act.put, qa6, qb6, qc6, qd6, qe6, qf6]
      refine wpAnyN_take (i := 13) (v := ?_) rfl (by kernel_rfl) (by kernel_rfl) (by kernel_rfl) (by kernel_rfl) (fun _ _ _ h => h) (Or.inl ⟨by kernel_rfl, ?y12⟩) hHeld ?_
      case y12 =>
        intro w0 hSw
        (try dsimp only at hSw)
        go_simp
        try with_reducible rfl
      try simp only [Act.put, qa6, qb6, qc6, qd6, qe6, qf6]
      refine wpAnyN_take (i := 14) (v := ?_) rfl (by kernel_rfl) (by kernel_rfl) (by kernel_rfl) (by kernel_rfl) (fun _ _ _ h => h) (Or.inl ⟨by kernel_rfl, ?y13⟩) hHeld ?_
      case y13 =>
        intro w0 hSw
        (try dsimp only at hSw)
        go_simp
        try with_reducible rfl
      try simp only [Act.put, qa6, qb6, qc6, qd6, qe6, qf6]
      refine wpAnyN_take (i := 15) (v := ?_) rfl (by kernel_rfl) (by kernel_rfl) (by kernel_rfl) (by kernel_rfl) (fun _ _ _ h => h) (Or.inl ⟨by kernel_rfl, ?y14⟩) hHeld ?_
      case y14 =>
        intro w0 hSw
        (try dsimp only at hSw)
        go_simp
        try with_reducible rfl
      try simp only [Act.put, qa6, qb6, qc6, qd6, qe6, qf6]
      refine wpAnyN_take (i := 16) (v := ?_) rfl (by kernel_rfl) (by kernel_rfl) (by kernel_rfl) (by kernel_rfl) (fun _ _ _ h => h) (Or.inl ⟨by kernel_rfl, ?y15⟩) hHeld ?_
      case y15 =>
        intro w0 hSw
        (try dsimp only at hSw)
        go_simp
        try with_reducible rfl
      try simp only [Act.put, qa6, qb6, qc6, qd6, qe6, qf6]
      refine wpAnyN_take (i := 17) (v := ?_) rfl (by kernel_rfl) (by kernel_rfl) (by kernel_rfl) (by kernel_rfl) (fun _ _ _ h => h) (Or.inl ⟨by kernel_rfl, ?y16⟩) hHeld ?_
      case y16 =>
        intro w0 hSw
        (try dsimp only at hSw)
        go_simp
        try with_reducible rfl
      try simp only [Act.put, qa6, qb6, qc6, qd6, qe6, qf6]
      refine wpAnyN_take (i := 18) (v := ?_) rfl (by kernel_rfl) (by kernel_rfl) (by kernel_rfl) (by kernel_rfl) (fun _ _ _ h => h) (Or.inl ⟨by kernel_rfl, ?y17⟩) hHeld ?_
      case y17 =>
        intro w0 hSw
        (try dsimp only at hSw)
        go_simp
        try with_reducible rfl
      try simp only [Act.put, qa6, qb6, qc6, qd6, qe6, qf6]
      refine wpAnyN_take (i := 19) (v := ?_) rfl (by kernel_rfl) (by kernel_rfl) (by kernel_rfl) (by kernel_rfl) (fun _ _ _ h => h) (Or.inl ⟨by kernel_rfl, ?y18⟩) hHeld ?_
      case y18 =>
        intro w0 hSw
        (try dsimp only at hSw)
        go_simp
        try with_reducible rfl
      try simp only [Act.put, qa6, qb6, qc6, qd6, qe6, qf6]
      refine wpAnyN_take (i := 20) (v := undef) rfl (by kernel_rfl) (by kernel_rfl) (by kernel_rfl) (by kernel_rfl) (fun _ _ _ h => h) (Or.inr ⟨by kernel_rfl, rfl⟩) hHeld ?_
      try simp only [Act.put, qa6, qb6, qc6, qd6, qe6, qf6]
      refine wpAnyN_take (i := 21) (v := undef) rfl (by kernel_rfl) (by kernel_rfl) (by kernel_rfl) (by kernel_rfl) (fun _ _ _ h => h) (Or.inr ⟨by kernel_rfl, rfl⟩) hHeld ?_
      try simp only [Act.put, qa6, qb6, qc6, qd6, qe6, qf6]
      refine wpAnyN_take (i := 22) (v := undef) rfl (by kernel_rfl) (by kernel_rfl) (by kernel_rfl) (by kernel_rfl) (fun _ _ _ h => h) (Or.inr ⟨by kernel_rfl, rfl⟩) hHeld ?_
      try simp only [Act.put, qa6, qb6, qc6, qd6, qe6, qf6]
      refine wpAnyN_take (i := 23) (v := undef) rfl (by kernel_rfl) (by kernel_rfl) (by kernel_rfl) (by kernel_rfl) (fun _ _ _ h => h) (Or.inr ⟨by kernel_rfl, rfl⟩) hHeld ?_
      try simp only [Act.put, qa6, qb6, qc6, qd6, qe6, qf6]
      refine wpAnyN_take (i := 24) (v := undef) rfl (by kernel_rfl) (by kernel_rfl) (by kernel_rfl) (by kernel_rfl) (fun _ _ _ h => h) (Or.inr ⟨by kernel_rfl, rfl⟩) hHeld ?_
      try simp only [Act.put, qa6, qb6, qc6, qd6, qe6, qf6]
      refine wpAnyN_take (i := 25) (v := undef) rfl (by kernel_rfl) (by kernel_rfl) (by kernel_rfl) (by kernel_rfl) (fun _ _ _ h => h) (Or.inr ⟨by kernel_rfl, rfl⟩) hHeld ?_
      try simp only [Act.put, qa6, qb6, qc6, qd6, qe6, qf6]
      refine wpAnyN_take (i := 26) (v := undef) rfl (by kernel_rfl) (by kernel_rfl) (by kernel_rfl) (by kernel_rfl) (fun _ _ _ h => h) (Or.inr ⟨by kernel_rfl, rfl⟩) hHeld ?_
      try simp only [Act.put, qa6, qb6, qc6, qd6, qe6, qf6]
      refine wpAnyN_take (i := 27) (v := undef) rfl (by kernel_rfl) (by kernel_rfl) (by kernel_rfl) (by kernel_rfl) (fun _ _ _ h => h) (Or.inr ⟨by kernel_rfl, rfl⟩) hHeld ?_
      try simp only [Act.put, qa6, qb6, qc6, qd6, qe6, qf6]
      refine wpAnyN_take (i := 28) (v := undef) rfl (by kernel_rfl) (by kernel_rfl) (by kernel_rfl) (by kernel_rfl) (fun _ _ _ h => h) (Or.inr ⟨by kernel_rfl, rfl⟩) hHeld ?_
      try simp only [Act.put, qa6, qb6, qc6, qd6, qe6, qf6]
      refine wpAnyN_take (i := 29) (v := undef) rfl (by kernel_rfl) (by kernel_rfl) (by kernel_rfl) (by kernel_rfl) (fun _ _ _ h => h) (Or.inr ⟨by kernel_rfl, rfl⟩) hHeld ?_
      try simp only [Act.put, qa6, qb6, qc6, qd6, qe6, qf6]
      refine wpAnyN_take (i := 30) (v := undef) rfl (by kernel_rfl) (by kernel_rfl) (by kernel_rfl) (by kernel_rfl) (fun _ _ _ h => h) (Or.inr ⟨by kernel_rfl, rfl⟩) hHeld ?_
      try simp only [Act.put, qa6, qb6, qc6, qd6, qe6, qf6]
      refine wpAnyN_take (i := 31) (v := ?_) rfl (by kernel_rfl) (by kernel_rfl) (by kernel_rfl) (by kernel_rfl) (fun _ _ _ h => h) (Or.inl ⟨by kernel_rfl, ?y19⟩) hHeld ?_
      case y19 =>
        intro w0 hSw
        (try dsimp only at hSw)
        go_simp
        try with_reducible rfl
      try simp only [Act.put, qa6, qb6, qc6, qd6, qe6, qf6]
      refine wpAnyN_take (i := 32) (v := ?_) rfl (by kernel_rfl) (by kernel_rfl) (by kernel_rfl) (by kernel_rfl) (fun _ _ _ h => h) (Or.inl ⟨by kernel_rfl, ?y20⟩) hHeld ?_
      case y20 =>
        intro w0 hSw
        (try dsimp only at hSw)
        go_simp
        try with_reducible rfl
      try simp only [Act.put, qa6, qb6, qc6, qd6, qe6, qf6]
      refine wpAnyN_take (i := 33) (v := ?_) rfl (by kernel_rfl) (by kernel_rfl) (by kernel_rfl) (by kernel_rfl) (fun _ _ _ h => h) (Or.inl ⟨by kernel_rfl, ?y21⟩) hHeld ?_
      case y21 =>
        intro w0 hSw
        (try dsimp only at hSw)
        go_simp
        try with_reducible rfl
      try simp only [Act.put, qa6, qb6, qc6, qd6, qe6, qf6]
      refine wpAnyN_done (by kernel_rfl) ?_ _
      have hbz := HUP.out _ hbx
      go_wp2
      go_roundw
      case rel => exact ⟨k + 1, by go_num, by omega, by repeat (first | exact hbz | refine below_drewN ?_ _)⟩
      case measure => simpa [intOf] using hmu
    · obtain rfl : k = xs.length := by omega
      obtain ⟨c0, c1, c2, c3, c4⟩ := HC.out wr hbr
      go_wp2
      obtain ⟨w8, h8⟩ : ∃ w8, w8 = wr := ⟨_, rfl⟩
      subst h8
      go_loopw [5] (fun i wr => i = .int .i64 (xs.length : Int) ∧ Below wa.heap.size wa wr) (fun _ _ => 0)
      case atStart => exact ⟨rfl, hbr⟩
      case round =>
        obtain ⟨rfl, hbr⟩ := hrel
        obtain ⟨c0, c1, c2, c3, c4⟩ := HC.out wr hbr
        have hnn : ¬ ((xs.length : Int) < 0) := by omega
        go_wp2
        go_ret
        exact ⟨rfl, box_below (by rw [HWA.out] at hbr; repeat (first | exact hbr | refine below_drewN ?_ _))⟩


set_option maxRecDepth 100000 in
set_option maxHeartbeats 4000000 in
theorem shows_grown {w : World} {A B : Option Addr} {V : Value} {c cg : Nat} {id : Int} {xs gs : List ByteArray} (hL : TxtAt w (.slice A xs.length c) xs) (hG : TxtAt w (.slice B (xs.length + 64) cg) gs) (hgl : gs.length = xs.length + 64) (hxs : ∀ j (hj : j < xs.length), xs[j] = textF id (j : Int)) (hg1 : ∀ j (hj : j < gs.length), j < xs.length → gs[j] = textF id (j : Int)) (hg2 : ∀ j (hj : j < gs.length), xs.length ≤ j → gs[j] = textF (id + 100000) ((j : Int) - (xs.length : Int))) (hn : xs.length ≤ 1048576) (hid : 0 ≤ id ∧ id ≤ 1048576) (hp : Pow w) :
    Calls Tryz.prog 173 #[.agg #[.slice A xs.length c, .slice B (xs.length + 64) cg, V, .int .i64 id, .bool true]] w fun e w' => e = .returned (.bool true) ∧ Below w.heap.size w w' := by
  have HX := Lib.hid hL.at_
  have HG := Lib.hid hG.at_
  have HGL := Lib.hid hgl
  have HP := Lib.hid hp
  have HXS := Lib.hid hxs
  have HG1 := Lib.hid hg1
  have HG2 := Lib.hid hg2
  obtain ⟨ag, rfl, hgb⟩ : ∃ ag, B = some ag ∧ ag.block < w.heap.size := by obtain ⟨ag, e, h, _⟩ := HG.out 0 (by omega); exact ⟨ag, e, h⟩
  clear hL hp hxs hG hgl hg1 hg2
  go_enter Tryz.func173, Tryz.ntmps173
  go_wp2
  obtain ⟨wa, hwa⟩ : ∃ wa, wa = w.alloc (.cells #[.slice A xs.length c, .slice (some ag) (xs.length + 64) cg, V, .int .i64 id, .bool true] 68) := ⟨_, rfl⟩
  have HWA := Lib.hid hwa
  rw [← hwa]
  clear hwa
  have HC := Lib.hid (fun W (hb : Below wa.heap.size wa W) => (show W.cell? ⟨w.heap.size, 0, none⟩ = some (.slice A xs.length c) ∧ W.cell? ⟨w.heap.size, 1, none⟩ = some (.slice (some ag) (xs.length + 64) cg) ∧ W.cell? ⟨w.heap.size, 2, none⟩ = some (V) ∧ W.cell? ⟨w.heap.size, 3, none⟩ = some (.int .i64 id) ∧ W.cell? ⟨w.heap.size, 4, none⟩ = some (.bool true) from by rw [HWA.out] at hb; exact ⟨cell_box 0 hb, cell_box 1 hb, cell_box 2 hb, cell_box 3 hb, cell_box 4 hb⟩))
  go_loopw [4] (fun i wr => ∃ k : Nat, i = .int .i64 (k : Int) ∧ k ≤ xs.length ∧ Below wa.heap.size wa wr) (fun i _ => xs.length - (intOf i).toNat)
  case atStart => exact ⟨0, rfl, Nat.zero_le _, Below.refl _ _⟩
  case round =>
    obtain ⟨k, rfl, hk, hbr⟩ := hrel
    by_cases hlt : k < xs.length
    · obtain ⟨ad, rfl, hl, hc⟩ := HX.out k hlt
      have hmu := meas_up xs.length k hlt
      have hwk := wrap_up k (by omega)
      have HE := Lib.hid (fun W (hb : Below wa.heap.size wa W) => (show W.cell? (ad.add k) = some (.string xs[k]) from by rw [HWA.out] at hb; exact cell_old hc hl hb))
      simp only [HXS.out k hlt] at HE
      obtain ⟨ag', eg, _, hcg⟩ := HG.out k (by have := HGL.out; omega)
      obtain rfl : ag = ag' := Option.some.inj eg
      rw [HG1.out k (by have := HGL.out; omega) hlt] at hcg
      have HE2 := Lib.hid (fun W (hb : Below wa.heap.size wa W) => (show W.cell? (ag.add k) = some (.string (textF id (k : Int))) from by rw [HWA.out] at hb; exact cell_old hcg hgb hb))
      have hgz : (0 : Int) < (xs.length : Int) + 64 := by omega
      have hlt3 : (k : Int) < (xs.length : Int) + 64 := by omega
      have e0 := HE.out wr hbr
      obtain ⟨c0, c1, c2, c3, c4⟩ := HC.out wr hbr
      clear hc hl
      go_wp2
      go_quiet (fail)
      go_wp2
      obtain ⟨wq, hwq⟩ : ∃ wq, wq = wr.drewN nq := ⟨_, rfl⟩
      rw [← hwq]
      have hbq : Below wa.heap.size wa wq := by rw [hwq]; exact below_drewN hbr _
      clear hwq c0 c1 c2 c3 c4 e0 hbr
      have HP2 := Lib.hid (fun W (hb : Below wq.drew.heap.size wq.drew W) => (show Pow W from (HP.out.below (box_below (by rw [← HWA.out]; exact hbq.trans (show Below wa.heap.size wq W from ⟨hb.os, hb.tape, hb.output, hb.size, fun q hq => hb.block q (Nat.lt_of_lt_of_le hq hbq.size)⟩))))))
      have HUP := Lib.hid (fun W (hb : Below wq.drew.heap.size wq.drew W) => (show Below wa.heap.size wa W from hbq.trans ⟨hb.os, hb.tape, hb.output, hb.size, fun q hq => hb.block q (Nat.lt_of_lt_of_le hq hbq.size)⟩))
      have HS := Lib.hid (fun W (hb : Below wq.drew.heap.size wq.drew W) => (show W.cell? ⟨w.heap.size, 0, none⟩ = some (.slice (some ad) xs.length c) ∧ W.cell? ⟨w.heap.size, 1, none⟩ = some (.slice (some ag) (xs.length + 64) cg) ∧ W.cell? ⟨w.heap.size, 3, none⟩ = some (.int .i64 id) ∧ W.cell? ⟨w.heap.size, 4, none⟩ = some (.bool true) ∧ W.cell? (ad.add k) = some (.string (textF id (k : Int))) ∧ W.cell? (ag.add k) = some (.string (textF id (k : Int))) from by
        obtain ⟨c0, c1, c2, c3, c4⟩ := HC.out W (HUP.out W hb)
        exact ⟨c0, c1, c3, c4, HE.out _ (HUP.out W hb), HE2.out _ (HUP.out W hb)⟩))
      have hHeld := HS.out wq.drew (Below.refl _ _)
      have hmk2 := fun W (hb : Below wq.drew.heap.size wq.drew W) => markTexts_any W (HP2.out _ hb) id (k : Int) (and_range hid) (nat_range k (by omega))
      have hmk := markTexts_any wq.drew (HP2.out _ (Below.refl _ _)) id (k : Int) (and_range hid) (nat_range k (by omega))
      refine wp_region_n (n := 34) (S := fun w' => w'.cell? ⟨w.heap.size, 0, none⟩ = some (.slice (some ad) xs.length c) ∧ w'.cell? ⟨w.heap.size, 1, none⟩ = some (.slice (some ag) (xs.length + 64) cg) ∧ w'.cell? ⟨w.heap.size, 3, none⟩ = some (.int .i64 id) ∧ w'.cell? ⟨w.heap.size, 4, none⟩ = some (.bool true) ∧ w'.cell? (ad.add k) = some (.string (textF id (k : Int))) ∧ w'.cell? (ag.add k) = some (.string (textF id (k : Int)))) (by kernel_rfl) ?_
      refine wpAnyN_take (i := 0) (v := ?_) rfl (by kernel_rfl) (by kernel_rfl) (by kernel_rfl) (by kernel_rfl) (fun _ _ _ h => h) (Or.inl ⟨by kernel_rfl, ?y22⟩) hHeld ?_
      case y22 =>
        intro w0 hSw
        (try dsimp only at hSw)
        go_simp
        try with_reducible rfl
      try simp only [Act.put, qa6, qb6, qc6, qd6, qe6, qf6]
      refine wpAnyN_take (i := 1) (v := ?_) rfl (by kernel_rfl) (by kernel_rfl) (by kernel_rfl) (by kernel_rfl) (fun _ _ _ h => h) (Or.inl ⟨by kernel_rfl, ?y23⟩) hHeld ?_
      case y23 =>
        intro w0 hSw
        (try dsimp only at hSw)
        go_simp
        try with_reducible rfl
      try simp only [Act.put, qa6, qb6, qc6, qd6, qe6, qf6]
      refine wpAnyN_take (i := 2) (v := ?_) rfl (by kernel_rfl) (by kernel_rfl) (by kernel_rfl) (by kernel_rfl) (fun _ _ _ h => h) (Or.inl ⟨by kernel_rfl, ?y24⟩) hHeld ?_
      case y24 =>
        intro w0 hSw
        (try dsimp only at hSw)
        go_simp
        try with_reducible rfl
      try simp only [Act.put, qa6, qb6, qc6, qd6, qe6, qf6]
      refine wpAnyN_take (i := 3) (v := ?_) rfl (by kernel_rfl) (by kernel_rfl) (by kernel_rfl) (by kernel_rfl) (fun _ _ _ h => h) (Or.inl ⟨by kernel_rfl, ?y25⟩) hHeld ?_
      case y25 =>
        intro w0 hSw
        (try dsimp only at hSw)
        go_simp
        try with_reducible rfl
      try simp only [Act.put, qa6, qb6, qc6, qd6, qe6, qf6]
      refine wpAnyN_take (i := 4) (v := ?_) rfl (by kernel_rfl) (by kernel_rfl) (by kernel_rfl) (by kernel_rfl) (fun _ _ _ h => h) (Or.inl ⟨by kernel_rfl, ?y26⟩) hHeld ?_
      case y26 =>
        intro w0 hSw
        (try dsimp only at hSw)
        go_simp
        try with_reducible rfl
      try simp only [Act.put, qa6, qb6, qc6, qd6, qe6, qf6]
      refine wpAnyN_take (i := 5) (v := ?_) rfl (by kernel_rfl) (by kernel_rfl) (by kernel_rfl) (by kernel_rfl) (fun _ _ _ h => h) (Or.inl ⟨by kernel_rfl, ?y27⟩) hHeld ?_
      case y27 =>
        intro w0 hSw
        (try dsimp only at hSw)
        go_simp
        try with_reducible rfl
      try simp only [Act.put, qa6, qb6, qc6, qd6, qe6, qf6]
      refine wpAnyN_take (i := 6) (v := ?_) rfl (by kernel_rfl) (by kernel_rfl) (by kernel_rfl) (by kernel_rfl) (fun _ _ _ h => h) (Or.inl ⟨by kernel_rfl, ?y28⟩) hHeld ?_
      case y28 =>
        intro w0 hSw
        (try dsimp only at hSw)
        go_simp
        try with_reducible rfl
      try simp only [Act.put, qa6, qb6, qc6, qd6, qe6, qf6]
      refine wpAnyN_take (i := 7) (v := ?_) rfl (by kernel_rfl) (by kernel_rfl) (by kernel_rfl) (by kernel_rfl) (fun _ _ _ h => h) (Or.inl ⟨by kernel_rfl, ?y29⟩) hHeld ?_
      case y29 =>
        intro w0 hSw
        (try dsimp only at hSw)
        go_simp
        try with_reducible rfl
      try simp only [Act.put, qa6, qb6, qc6, qd6, qe6, qf6]
      refine wpAnyN_take (i := 8) (v := ?_) rfl (by kernel_rfl) (by kernel_rfl) (by kernel_rfl) (by kernel_rfl) (fun _ _ _ h => h) (Or.inl ⟨by kernel_rfl, ?y30⟩) hHeld ?_
      case y30 =>
        intro w0 hSw
        (try dsimp only at hSw)
        go_simp
        try with_reducible rfl
      try simp only [Act.put, qa6, qb6, qc6, qd6, qe6, qf6]
      refine wpAnyN_take (i := 9) (v := ?_) rfl (by kernel_rfl) (by kernel_rfl) (by kernel_rfl) (by kernel_rfl) (fun _ _ _ h => h) (Or.inl ⟨by kernel_rfl, ?y31⟩) hHeld ?_
      case y31 =>
        intro w0 hSw
        (try dsimp only at hSw)
        go_simp
        try with_reducible rfl
      try simp only [Act.put, qa6, qb6, qc6, qd6, qe6, qf6]
      refine wpAnyN_take (i := 10) (v := ?_) rfl (by kernel_rfl) (by kernel_rfl) (by kernel_rfl) (by kernel_rfl) (fun _ _ _ h => h) (Or.inl ⟨by kernel_rfl, ?y32⟩) hHeld ?_
      case y32 =>
        intro w0 hSw
        (try dsimp only at hSw)
        go_simp
        try with_reducible rfl
      try simp only [Act.put, qa6, qb6, qc6, qd6, qe6, qf6]
      refine wpAnyN_step (i := 11) (by kernel_rfl) rfl (fun K hK => ?_)
      go_simp
      go_at_call 86
      refine (hmk).mono ?_
      rintro en wx ⟨rfl, hbx⟩
      have hHeld := HS.out wx (hbx)
      clear hmk
      go_wp2_with fail
      refine hK.out _ _ (fun _ => hHeld) ?_
      clear hK K
      try simp only [Act.put, qa6, qb6, qc6, qd6, qe6, qf6]
      refine wpAnyN_step (i := 12) (by kernel_rfl) rfl (fun K hK => ?_)
      go_simp
      go_at_call 230
      refine (sameT_one _ _).mono ?_
      rintro en wn ⟨rfl, hwn⟩
      have hwn := hwn.symm
      subst hwn
      go_wp2_with fail
      refine hK.out _ _ (fun _ => hHeld) ?_
      clear hK K
      try simp only [Act.put, qa6, qb6, qc6, qd6, qe6, qf6]
      refine wpAnyN_take (i := 13) (v := ?_) rfl (by kernel_rfl) (by kernel_rfl) (by kernel_rfl) (by kernel_rfl) (fun _ _ _ h => h) (Or.inl ⟨by kernel_rfl, ?y33⟩) hHeld ?_
      case y33 =>
        intro w0 hSw
        (try dsimp only at hSw)
        go_simp
        try with_reducible rfl
      try simp only [Act.put, qa6, qb6, qc6, qd6, qe6, qf6]
      refine wpAnyN_take (i := 14) (v := ?_) rfl (by kernel_rfl) (by kernel_rfl) (by kernel_rfl) (by kernel_rfl) (fun _ _ _ h => h) (Or.inl ⟨by kernel_rfl, ?y34⟩) hHeld ?_
      case y34 =>
        intro w0 hSw
        (try dsimp only at hSw)
        go_simp
        try with_reducible rfl
      try simp only [Act.put, qa6, qb6, qc6, qd6, qe6, qf6]
      refine wpAnyN_take (i := 15) (v := ?_) rfl (by kernel_rfl) (by kernel_rfl) (by kernel_rfl) (by kernel_rfl) (fun _ _ _ h => h) (Or.inl ⟨by kernel_rfl, ?y35⟩) hHeld ?_
      case y35 =>
        intro w0 hSw
        (try dsimp only at hSw)
        go_simp
        try with_reducible rfl
      try simp only [Act.put, qa6, qb6, qc6, qd6, qe6, qf6]
      refine wpAnyN_take (i := 16) (v := ?_) rfl (by kernel_rfl) (by kernel_rfl) (by kernel_rfl) (by kernel_rfl) (fun _ _ _ h => h) (Or.inl ⟨by kernel_rfl, ?y36⟩) hHeld ?_
      case y36 =>
        intro w0 hSw
        (try dsimp only at hSw)
        go_simp
        try with_reducible rfl
      try simp only [Act.put, qa6, qb6, qc6, qd6, qe6, qf6]
      refine wpAnyN_take (i := 17) (v := ?_) rfl (by kernel_rfl) (by kernel_rfl) (by kernel_rfl) (by kernel_rfl) (fun _ _ _ h => h) (Or.inl ⟨by kernel_rfl, ?y37⟩) hHeld ?_
      case y37 =>
        intro w0 hSw
        (try dsimp only at hSw)
        go_simp
        try with_reducible rfl
      try simp only [Act.put, qa6, qb6, qc6, qd6, qe6, qf6]
      refine wpAnyN_take (i := 18) (v := ?_) rfl (by kernel_rfl) (by kernel_rfl) (by kernel_rfl) (by kernel_rfl) (fun _ _ _ h => h) (Or.inl ⟨by kernel_rfl, ?y38⟩) hHeld ?_
      case y38 =>
        intro w0 hSw
        (try dsimp only at hSw)
        go_simp
        try with_reducible rfl
      try simp only [Act.put, qa6, qb6, qc6, qd6, qe6, qf6]
      refine wpAnyN_take (i := 19) (v := ?_) rfl (by kernel_rfl) (by kernel_rfl) (by kernel_rfl) (by kernel_rfl) (fun _ _ _ h => h) (Or.inl ⟨by kernel_rfl, ?y39⟩) hHeld ?_
      case y39 =>
        intro w0 hSw
        (try dsimp only at hSw)
        go_simp
        try with_reducible rfl
      try simp only [Act.put, qa6, qb6, qc6, qd6, qe6, qf6]
      refine wpAnyN_take (i := 20) (v := ?_) rfl (by kernel_rfl) (by kernel_rfl) (by kernel_rfl) (by kernel_rfl) (fun _ _ _ h => h) (Or.inl ⟨by kernel_rfl, ?y40⟩) hHeld ?_
      case y40 =>
        intro w0 hSw
        (try dsimp only at hSw)
        go_simp
        try with_reducible rfl
      try simp only [Act.put, qa6, qb6, qc6, qd6, qe6, qf6]
      refine wpAnyN_take (i := 21) (v := ?_) rfl (by kernel_rfl) (by kernel_rfl) (by kernel_rfl) (by kernel_rfl) (fun _ _ _ h => h) (Or.inl ⟨by kernel_rfl, ?y41⟩) hHeld ?_
      case y41 =>
        intro w0 hSw
        (try dsimp only at hSw)
        go_simp
        try with_reducible rfl
      try simp only [Act.put, qa6, qb6, qc6, qd6, qe6, qf6]
      refine wpAnyN_take (i := 22) (v := ?_) rfl (by kernel_rfl) (by kernel_rfl) (by kernel_rfl) (by kernel_rfl) (fun _ _ _ h => h) (Or.inl ⟨by kernel_rfl, ?y42⟩) hHeld ?_
      case y42 =>
        intro w0 hSw
        (try dsimp only at hSw)
        go_simp
        try with_reducible rfl
      try simp only [Act.put, qa6, qb6, qc6, qd6, qe6, qf6]
      refine wpAnyN_take (i := 23) (v := ?_) rfl (by kernel_rfl) (by kernel_rfl) (by kernel_rfl) (by kernel_rfl) (fun _ _ _ h => h) (Or.inl ⟨by kernel_rfl, ?y43⟩) hHeld ?_
      case y43 =>
        intro w0 hSw
        (try dsimp only at hSw)
        go_simp
        try with_reducible rfl
      try simp only [Act.put, qa6, qb6, qc6, qd6, qe6, qf6]
      refine wpAnyN_take (i := 24) (v := ?_) rfl (by kernel_rfl) (by kernel_rfl) (by kernel_rfl) (by kernel_rfl) (fun _ _ _ h => h) (Or.inl ⟨by kernel_rfl, ?y44⟩) hHeld ?_
      case y44 =>
        intro w0 hSw
        (try dsimp only at hSw)
        go_simp
        try with_reducible rfl
      try simp only [Act.put, qa6, qb6, qc6, qd6, qe6, qf6]
      refine wpAnyN_take (i := 25) (v := ?_) rfl (by kernel_rfl) (by kernel_rfl) (by kernel_rfl) (by kernel_rfl) (fun _ _ _ h => h) (Or.inl ⟨by kernel_rfl, ?y45⟩) hHeld ?_
      case y45 =>
        intro w0 hSw
        (try dsimp only at hSw)
        go_simp
        try with_reducible rfl
      try simp only [Act.put, qa6, qb6, qc6, qd6, qe6, qf6]
      refine wpAnyN_take (i := 26) (v := ?_) rfl (by kernel_rfl) (by kernel_rfl) (by kernel_rfl) (by kernel_rfl) (fun _ _ _ h => h) (Or.inl ⟨by kernel_rfl, ?y46⟩) hHeld ?_
      case y46 =>
        intro w0 hSw
        (try dsimp only at hSw)
        go_simp
        try with_reducible rfl
      try simp only [Act.put, qa6, qb6, qc6, qd6, qe6, qf6]
      refine wpAnyN_take (i := 27) (v := ?_) rfl (by kernel_rfl) (by kernel_rfl) (by kernel_rfl) (by kernel_rfl) (fun _ _ _ h => h) (Or.inl ⟨by kernel_rfl, ?y47⟩) hHeld ?_
      case y47 =>
        intro w0 hSw
        (try dsimp only at hSw)
        go_simp
        try with_reducible rfl
      try simp only [Act.put, qa6, qb6, qc6, qd6, qe6, qf6]
      refine wpAnyN_step (i := 28) (by kernel_rfl) rfl (fun K hK => ?_)
      go_simp
      go_at_call 86
      refine (hmk2 wx hbx).mono ?_
      rintro en wy ⟨rfl, hby⟩
      have hHeld := HS.out wy (hbx.trans (hby.mono hbx.size))

      go_wp2_with fail
      refine hK.out _ _ (fun _ => hHeld) ?_
      clear hK K
      try simp only [Act.put, qa6, qb6, qc6, qd6, qe6, qf6]
      refine wpAnyN_step (i := 29) (by kernel_rfl) rfl (fun K hK => ?_)
      go_simp
      go_at_call 230
      refine (sameT_one _ _).mono ?_
      rintro en wn ⟨rfl, hwn⟩
      have hwn := hwn.symm
      subst hwn
      go_wp2_with fail
      refine hK.out _ _ (fun _ => hHeld) ?_
      clear hK K
      try simp only [Act.put, qa6, qb6, qc6, qd6, qe6, qf6]
      refine wpAnyN_take (i := 30) (v := ?_) rfl (by kernel_rfl) (by kernel_rfl) (by kernel_rfl) (by kernel_rfl) (fun _ _ _ h => h) (Or.inl ⟨by kernel_rfl, ?y48⟩) hHeld ?_
      case y48 =>
        intro w0 hSw
        (try dsimp only at hSw)
        go_simp
        try with_reducible rfl
      try simp only [Act.put, qa6, qb6, qc6, qd6, qe6, qf6]
      refine wpAnyN_take (i := 31) (v := ?_) rfl (by kernel_rfl) (by kernel_rfl) (by kernel_rfl) (by kernel_rfl) (fun _ _ _ h => h) (Or.inl ⟨by kernel_rfl, ?y49⟩) hHeld ?_
      case y49 =>
        intro w0 hSw
        (try dsimp only at hSw)
        go_simp
        try with_reducible rfl
      try simp only [Act.put, qa6, qb6, qc6, qd6, qe6, qf6]
      refine wpAnyN_take (i := 32) (v := ?_) rfl (by kernel_rfl) (by kernel_rfl) (by kernel_rfl) (by kernel_rfl) (fun _ _ _ h => h) (Or.inl ⟨by kernel_rfl, ?y50⟩) hHeld ?_
      case y50 =>
        intro w0 hSw
        (try dsimp only at hSw)
        go_simp
        try with_reducible rfl
      try simp only [Act.put, qa6, qb6, qc6, qd6, qe6, qf6]
      refine wpAnyN_take (i := 33) (v := ?_) rfl (by kernel_rfl) (by kernel_rfl) (by kernel_rfl) (by kernel_rfl) (fun _ _ _ h => h) (Or.inl ⟨by kernel_rfl, ?y51⟩) hHeld ?_
      case y51 =>
        intro w0 hSw
        (try dsimp only at hSw)
        go_simp
        try with_reducible rfl
      try simp only [Act.put, qa6, qb6, qc6, qd6, qe6, qf6]
      refine wpAnyN_done (by kernel_rfl) ?_ _
      have hbz := HUP.out _ (hbx.trans (hby.mono hbx.size))
      go_wp2
      go_roundw
      case rel => exact ⟨k + 1, by go_num, by omega, by repeat (first | exact hbz | refine below_drewN ?_ _)⟩
      case measure => simpa [intOf] using hmu
    · obtain rfl : k = xs.length := by omega
      obtain ⟨c0, c1, c2, c3, c4⟩ := HC.out wr hbr
      go_wp2
      obtain ⟨w8, h8⟩ : ∃ w8, w8 = wr := ⟨_, rfl⟩
      subst h8
      go_loopw [5] (fun i wr => ∃ k : Nat, i = .int .i64 (k : Int) ∧ xs.length ≤ k ∧ k ≤ xs.length + 64 ∧ Below wa.heap.size wa wr) (fun i _ => xs.length + 64 - (intOf i).toNat)
      case atStart => exact ⟨xs.length, rfl, Nat.le_refl _, Nat.le_add_right _ _, hbr⟩
      case round =>
        obtain ⟨k, rfl, hk, hk2, hbr⟩ := hrel
        by_cases hlt : k < xs.length + 64
        · obtain ⟨ag', eg, _, hcg⟩ := HG.out k (by have := HGL.out; omega)
          obtain rfl : ag = ag' := Option.some.inj eg
          rw [HG2.out k (by have := HGL.out; omega) hk] at hcg
          have HE2 := Lib.hid (fun W (hb : Below wa.heap.size wa W) => (show W.cell? (ag.add k) = some (.string (textF (id + 100000) ((k : Int) - (xs.length : Int)))) from by rw [HWA.out] at hb; exact cell_old hcg hgb hb))
          have hlt' : (k : Int) < (xs.length : Int) + 64 := by omega
          have hwk := wrap_up k (by omega)
          have hwd := wrap_down xs.length k hk (by omega)
          have hwd' := wrap_down' xs.length k hk (by omega)
          have hmu := meas_up (xs.length + 64) k hlt
          have HP2 := Lib.hid (fun W (hb : Below wr.drew.heap.size wr.drew W) => (show Pow W from (HP.out.below (box_below (by rw [← HWA.out]; exact hbr.trans (show Below wa.heap.size wr W from ⟨hb.os, hb.tape, hb.output, hb.size, fun q hq => hb.block q (Nat.lt_of_lt_of_le hq hbr.size)⟩))))))
          have HUP := Lib.hid (fun W (hb : Below wr.drew.heap.size wr.drew W) => (show Below wa.heap.size wa W from hbr.trans ⟨hb.os, hb.tape, hb.output, hb.size, fun q hq => hb.block q (Nat.lt_of_lt_of_le hq hbr.size)⟩))
          have HS := Lib.hid (fun W (hb : Below wr.drew.heap.size wr.drew W) => (show W.cell? ⟨w.heap.size, 1, none⟩ = some (.slice (some ag) (xs.length + 64) cg) ∧ W.cell? ⟨w.heap.size, 3, none⟩ = some (.int .i64 id) ∧ W.cell? (ag.add k) = some (.string (textF (id + 100000) ((k : Int) - (xs.length : Int)))) from by
            obtain ⟨c0, c1, c2, c3, c4⟩ := HC.out W (HUP.out W hb)
            exact ⟨c1, c3, HE2.out _ (HUP.out W hb)⟩))
          have hHeld := HS.out wr.drew (Below.refl _ _)
          have hbh := behind_any wr.drew id hid
          have hmk := markTexts_any wr.drew (HP2.out _ (Below.refl _ _)) (id + 100000) ((k : Int) - (xs.length : Int)) (and_range2 hid) (sub_range xs.length k hk (by omega))
          obtain ⟨c0, c1, c2, c3, c4⟩ := HC.out wr hbr
          clear hcg
          go_wp2
          clear c0 c1 c2 c3 c4
          refine wp_region_n (n := 14) (S := fun w' => w'.cell? ⟨w.heap.size, 1, none⟩ = some (.slice (some ag) (xs.length + 64) cg) ∧ w'.cell? ⟨w.heap.size, 3, none⟩ = some (.int .i64 id) ∧ w'.cell? (ag.add k) = some (.string (textF (id + 100000) ((k : Int) - (xs.length : Int))))) (by kernel_rfl) ?_
          refine wpAnyN_take (i := 0) (v := ?_) rfl (by kernel_rfl) (by kernel_rfl) (by kernel_rfl) (by kernel_rfl) (fun _ _ _ h => h) (Or.inl ⟨by kernel_rfl, ?y52⟩) hHeld ?_
          case y52 =>
            intro w0 hSw
            (try dsimp only at hSw)
            go_simp
            try with_reducible rfl
          try simp only [Act.put, qa6, qb6, qc6, qd6, qe6, qf6]
          refine wpAnyN_take (i := 1) (v := ?_) rfl (by kernel_rfl) (by kernel_rfl) (by kernel_rfl) (by kernel_rfl) (fun _ _ _ h => h) (Or.inl ⟨by kernel_rfl, ?y53⟩) hHeld ?_
          case y53 =>
            intro w0 hSw
            (try dsimp only at hSw)
            go_simp
            try with_reducible rfl
          try simp only [Act.put, qa6, qb6, qc6, qd6, qe6, qf6]
          refine wpAnyN_take (i := 2) (v := ?_) rfl (by kernel_rfl) (by kernel_rfl) (by kernel_rfl) (by kernel_rfl) (fun _ _ _ h => h) (Or.inl ⟨by kernel_rfl, ?y54⟩) hHeld ?_
          case y54 =>
            intro w0 hSw
            (try dsimp only at hSw)
            go_simp
            try with_reducible rfl
          try simp only [Act.put, qa6, qb6, qc6, qd6, qe6, qf6]
          refine wpAnyN_take (i := 3) (v := ?_) rfl (by kernel_rfl) (by kernel_rfl) (by kernel_rfl) (by kernel_rfl) (fun _ _ _ h => h) (Or.inl ⟨by kernel_rfl, ?y55⟩) hHeld ?_
          case y55 =>
            intro w0 hSw
            (try dsimp only at hSw)
            go_simp
            try with_reducible rfl
          try simp only [Act.put, qa6, qb6, qc6, qd6, qe6, qf6]
          refine wpAnyN_take (i := 4) (v := ?_) rfl (by kernel_rfl) (by kernel_rfl) (by kernel_rfl) (by kernel_rfl) (fun _ _ _ h => h) (Or.inl ⟨by kernel_rfl, ?y56⟩) hHeld ?_
          case y56 =>
            intro w0 hSw
            (try dsimp only at hSw)
            go_simp
            try with_reducible rfl
          try simp only [Act.put, qa6, qb6, qc6, qd6, qe6, qf6]
          refine wpAnyN_take (i := 5) (v := ?_) rfl (by kernel_rfl) (by kernel_rfl) (by kernel_rfl) (by kernel_rfl) (fun _ _ _ h => h) (Or.inl ⟨by kernel_rfl, ?y57⟩) hHeld ?_
          case y57 =>
            intro w0 hSw
            (try dsimp only at hSw)
            go_simp
            try with_reducible rfl
          try simp only [Act.put, qa6, qb6, qc6, qd6, qe6, qf6]
          refine wpAnyN_take (i := 6) (v := ?_) rfl (by kernel_rfl) (by kernel_rfl) (by kernel_rfl) (by kernel_rfl) (fun _ _ _ h => h) (Or.inl ⟨by kernel_rfl, ?y58⟩) hHeld ?_
          case y58 =>
            intro w0 hSw
            (try dsimp only at hSw)
            go_simp
            try with_reducible rfl
          try simp only [Act.put, qa6, qb6, qc6, qd6, qe6, qf6]
          refine wpAnyN_take (i := 8) (v := ?_) rfl (by kernel_rfl) (by kernel_rfl) (by kernel_rfl) (by kernel_rfl) (fun _ _ _ h => h) (Or.inl ⟨by kernel_rfl, ?y59⟩) hHeld ?_
          case y59 =>
            intro w0 hSw
            (try dsimp only at hSw)
            go_simp
            try with_reducible rfl
          try simp only [Act.put, qa6, qb6, qc6, qd6, qe6, qf6]
          refine wpAnyN_take (i := 9) (v := ?_) rfl (by kernel_rfl) (by kernel_rfl) (by kernel_rfl) (by kernel_rfl) (fun _ _ _ h => h) (Or.inl ⟨by kernel_rfl, ?y60⟩) hHeld ?_
          case y60 =>
            intro w0 hSw
            (try dsimp only at hSw)
            go_simp
            try with_reducible rfl
          try simp only [Act.put, qa6, qb6, qc6, qd6, qe6, qf6]
          refine wpAnyN_take (i := 10) (v := ?_) rfl (by kernel_rfl) (by kernel_rfl) (by kernel_rfl) (by kernel_rfl) (fun _ _ _ h => h) (Or.inl ⟨by kernel_rfl, ?y61⟩) hHeld ?_
          case y61 =>
            intro w0 hSw
            (try dsimp only at hSw)
            go_simp
            try with_reducible rfl
          try simp only [Act.put, qa6, qb6, qc6, qd6, qe6, qf6]
          refine wpAnyN_step (i := 7) (by kernel_rfl) rfl (fun K hK => ?_)
          go_simp
          go_at_call 87
          refine (hbh).mono ?_
          rintro en wn ⟨rfl, hwn⟩
          have hwn := hwn.symm
          subst hwn
          clear hbh
          go_wp2_with fail
          refine hK.out _ _ (fun _ => hHeld) ?_
          clear hK K
          try simp only [Act.put, qa6, qb6, qc6, qd6, qe6, qf6]
          refine wpAnyN_step (i := 11) (by kernel_rfl) rfl (fun K hK => ?_)
          go_simp
          go_at_call 86
          refine (hmk).mono ?_
          rintro en wx ⟨rfl, hbx⟩
          have hHeld := HS.out wx (hbx)
          clear hmk
          go_wp2_with fail
          refine hK.out _ _ (fun _ => hHeld) ?_
          clear hK K
          try simp only [Act.put, qa6, qb6, qc6, qd6, qe6, qf6]
          refine wpAnyN_step (i := 12) (by kernel_rfl) rfl (fun K hK => ?_)
          go_simp
          go_at_call 230
          refine (sameT_one _ _).mono ?_
          rintro en wn ⟨rfl, hwn⟩
          have hwn := hwn.symm
          subst hwn
          go_wp2_with fail
          refine hK.out _ _ (fun _ => hHeld) ?_
          clear hK K
          try simp only [Act.put, qa6, qb6, qc6, qd6, qe6, qf6]
          refine wpAnyN_take (i := 13) (v := ?_) rfl (by kernel_rfl) (by kernel_rfl) (by kernel_rfl) (by kernel_rfl) (fun _ _ _ h => h) (Or.inl ⟨by kernel_rfl, ?y62⟩) hHeld ?_
          case y62 =>
            intro w0 hSw
            (try dsimp only at hSw)
            go_simp
            try with_reducible rfl
          try simp only [Act.put, qa6, qb6, qc6, qd6, qe6, qf6]
          refine wpAnyN_done (by kernel_rfl) ?_ _
          have hbz := HUP.out _ hbx
          go_wp2
          go_roundw
          case rel => exact ⟨k + 1, by go_num, by omega, by omega, by repeat (first | exact hbz | refine below_drewN ?_ _)⟩
          case measure => simpa [intOf] using hmu
        · obtain rfl : k = xs.length + 64 := by omega
          obtain ⟨c0, c1, c2, c3, c4⟩ := HC.out wr hbr
          go_wp2
          go_ret
          exact ⟨rfl, box_below (by rw [HWA.out] at hbr; repeat (first | exact hbr | refine below_drewN ?_ _))⟩

end Go.Proofs.YtplocldnklccfaaGreatDoor
namespace Go.Proofs.YtplocldnklccfaaGreatDoor
open Go.RowKit
set_option linter.unusedVariables false
set_option linter.unusedSimpArgs false

def encT (x : ByteArray) : List Value := [.string x]
theorem encT_len (x : ByteArray) : (encT x).length = 1 := rfl
theorem flatT (xs : List ByteArray) : (xs.map encT).flatten = xs.map Value.string := by
  induction xs with
  | nil => rfl
  | cons x xs ih => simp [encT, ih]
abbrev PageT (w : World) (p : Pg ByteArray) : Prop := PageAt textF w p.F 9 1 encT p.v p.L p.G p.W
abbrev PagesT (w : World) (Tv : Value) (ps : List (Pg ByteArray)) : Prop := PagesAt textF w 9 1 encT 68 Tv ps
theorem add_none (ad : Addr) (j : Nat) : (ad.add j).add 0 = ad.add j := rfl
theorem TxtAt.of_row {w : World} {R : Nat → Prop} {v : Value} {xs : List ByteArray} (h : RowAt w R 1 v (xs.map encT)) : TxtAt w v xs := by
  obtain ⟨A, c, hv, hx⟩ := h
  rw [List.length_map] at hv
  refine ⟨A, c, hv, fun j hj => ?_⟩
  obtain ⟨ad, e1, h1, _, h2⟩ := hx j (by simpa using hj)
  refine ⟨ad, e1, h1, ?_⟩
  have := h2 0 (.string xs[j]) (by rw [List.getElem_map]; rfl)
  rw [Nat.mul_one, add_none] at this
  exact this
theorem TxtAt.to_row {w : World} {R : Nat → Prop} {v : Value} {xs : List ByteArray} (h : TxtAt w v xs) (hR : ∀ q, v.ownBlock = some q → R q) : RowAt w R 1 v (xs.map encT) := by
  obtain ⟨A, c, hv, hx⟩ := h
  refine ⟨A, c, by rw [List.length_map]; exact hv, fun j hj => ?_⟩
  obtain ⟨ad, e1, h1, h2⟩ := hx j (by simpa using hj)
  refine ⟨ad, e1, h1, hR _ (by rw [hv, e1]; rfl), fun i u hu => ?_⟩
  rw [List.getElem_map] at hu
  match i, hu with
  | 0, hu =>
    obtain rfl := Option.some.inj hu
    rw [Nat.mul_one, add_none]
    exact h2
theorem cur_get {p : PageV ByteArray} (h : p.done = true) : ∀ j (hj : j < (curL textF p).length), (curL textF p)[j] = textF p.id (j : Int) := by
  unfold curL
  rw [if_pos h]
  exact fun j hj => marksL_get _ _ _ _ hj
theorem shows_any {w : World} {p : Pg ByteArray} (h : PageT w p) (hid : 0 ≤ p.v.id ∧ p.v.id ≤ 1048576) (hp : Pow w) :
    Calls Tryz.prog 173 #[.agg #[p.L, p.G, p.W, .int .i64 p.v.id, .bool p.v.done]] w fun e w' => e = .returned (.bool true) ∧ Below w.heap.size w w' := by
  obtain ⟨A, c, hL⟩ := h.form
  have hcl := curL_len textF p.v
  have hsm := h.small
  have hLx : p.L = .slice A (curL textF p.v).length c := by rw [hcl]; exact hL
  have hLT : TxtAt w (.slice A (curL textF p.v).length c) (curL textF p.v) := by
    rw [← hLx]
    exact TxtAt.of_row (h.reads encT_len)
  cases hd : p.v.done with
  | false =>
    obtain ⟨hg, hW, _⟩ := h.keep hd
    have hG := (h.own hg).2
    have hc : curL textF p.v = p.v.was := by unfold curL; rw [hd]; rfl
    rw [hc] at hLx hLT
    rw [flatT] at hW
    obtain ⟨B, d, hWv⟩ := own_form hW
    rw [hWv] at hW
    rw [hLx, hG, hWv]
    exact shows_kept hLT (TxtAt.own hW) hsm
  | true =>
    cases hg : p.v.grown with
    | false =>
      have hG := (h.own hg).2
      rw [hLx, hG]
      exact shows_filled hLT (cur_get hd) (by omega) hid hp
    | true =>
      have hgo := (h.gro hg).2.1
      rw [flatT] at hgo
      obtain ⟨B, d, hGv⟩ := own_form hgo
      have hgl := groL_len textF p.v
      rw [← hgl] at hgo
      have hGT := TxtAt.own hgo
      rw [hGv, ← hcl] at hGT
      rw [hLx, hGv, ← hcl]
      refine shows_grown hLT hGT (by omega) (cur_get hd) (fun j hj hlt => ?_) (fun j hj hle => ?_) (by omega) hid hp
      · exact (List.getElem_append_left hlt).trans (cur_get hd j hlt)
      · refine (List.getElem_append_right hle).trans ?_
        rw [marksL_get, Int.ofNat_sub hle]

/-- A book: its lists of texts. -/
structure BookT (w : World) (kb : Nat) (bc : Array Value) (Tv : Value) (ps : List (Pg ByteArray)) : Prop where
  blk : w.heap[kb]? = some (.cells bc 49 (0, 0))
  c4 : bc[4]? = some Tv
  pages : PagesT w Tv ps
  out : ∀ j (h : j < ps.length) q, ps[j].F q → q ≠ kb ∧ q ≠ 3
  tout : ∀ q, Tv.ownBlock = some q → q ≠ kb ∧ q ≠ 3
  pow : Pow w
  ids : ∀ j (h : j < ps.length), 0 ≤ ps[j].v.id ∧ ps[j].v.id ≤ 1048576
  len : ps.length ≤ 96
def BookF (Tv : Value) (ps : List (Pg ByteArray)) (q : Nat) : Prop := Tv.ownBlock = some q ∨ ∃ j, ∃ h : j < ps.length, ps[j].F q
theorem BookT.below {w w' : World} {kb : Nat} {bc : Array Value} {Tv : Value} {ps : List (Pg ByteArray)} (h : BookT w kb bc Tv ps) (hb : Below w.heap.size w w') : BookT w' kb bc Tv ps where
  blk := (hb.block kb (heap_lt h.blk)).trans h.blk
  c4 := h.c4
  pages := h.pages.below hb
  out := h.out
  tout := h.tout
  pow := h.pow.below hb
  ids := h.ids
  len := h.len
theorem BookT.turn {w w' : World} {kb : Nat} {bc : Array Value} {Tv : Value} {ps : List (Pg ByteArray)} {D : Nat → Prop} {tb cap : Nat} {cs : Array Value} (h : BookT w kb bc Tv ps) (k : Nat) (hk : k < ps.length) (hT : Tv = .slice (some ⟨tb, 0, none⟩) ps.length cap)
    (hcs : w.heap[tb]? = some (.cells cs 68 (0, 0))) (i : Nat) (hi : i < 5) (u : Value) (hcs' : w'.heap[tb]? = some (.cells (cs.setIfInBounds (k * 5 + i) u) 68 (0, 0))) (hc : Ch (fun q => q = tb ∨ D q) w w') (hD : ∀ q, D q → ps[k].F q) (p' : Pg ByteArray)
    (hp' : p'.cells = ps[k].cells.set i u) (hpg : PageT w' p') (hF : ∀ q, p'.F q → (ps[k].F q ∨ w.heap.size ≤ q) ∧ q < w'.heap.size) (hid : p'.v.id = ps[k].v.id) : BookT w' kb bc Tv (ps.set k p') := by
  have htb := h.tout tb (by rw [hT]; rfl)
  have hkl := heap_lt h.blk
  have hpl := h.pow.lt
  have get : ∀ j (hj : j < (ps.set k p').length), (ps.set k p')[j] = p' ∨ ∃ hj' : j < ps.length, (ps.set k p')[j] = ps[j] := fun j hj => by
    by_cases e : j = k
    · exact .inl (by subst e; simp)
    · exact .inr ⟨by simpa using hj, by rw [List.getElem_set_ne (Ne.symm e)]⟩
  refine ⟨(hc.block kb hkl ?_).trans h.blk, h.c4, h.pages.set k hk hT hcs i hi u hcs' hc hD p' hp' hpg hF, ?_, h.tout, h.pow.ch hc ?_, ?_, by rw [List.length_set]; exact h.len⟩
  · rintro (e | hd)
    · exact htb.1 e.symm
    · exact (h.out k hk kb (hD kb hd)).1 rfl
  · intro j hj q hq
    rcases get j hj with e | ⟨hj', e⟩
    · rw [e] at hq
      rcases (hF q hq).1 with h1 | h1
      · exact h.out k hk q h1
      · exact ⟨by omega, by omega⟩
    · rw [e] at hq
      exact h.out j hj' q hq
  · rintro q (rfl | hd)
    · exact htb.2
    · exact (h.out k hk q (hD q hd)).2
  · intro j hj
    rcases get j hj with e | ⟨hj', e⟩
    · rw [e, hid]
      exact h.ids k hk
    · rw [e]
      exact h.ids j hj'
end Go.Proofs.YtplocldnklccfaaGreatDoor
namespace Go.Proofs.YtplocldnklccfaaGreatDoor
open Go.RowKit
set_option linter.unusedVariables false
set_option linter.unusedSimpArgs false

def fillV (v : PageV ByteArray) : PageV ByteArray := { v with done := true }
def growV (v : PageV ByteArray) : PageV ByteArray := { v with grown := true }
theorem fill_page {w w' : World} {p : Pg ByteArray} {A : Option Addr} {c : Nat} (h : PageT w p) (hL : p.L = .slice A p.v.was.length c) (hd : p.v.done = false) (hown : w'.ownsRow 0 9 1 (.slice A p.v.was.length c) p.v.was.length (txts p.v.id p.v.was.length)) : PageT w' { p with v := fillV p.v } where
  form := ⟨A, c, hL⟩
  small := h.small
  own := fun hg => ⟨by
    show w'.ownsRow 0 9 1 p.L p.v.was.length _
    rw [hL, flatT]
    exact hown, (h.own hg).2⟩
  keep := fun hd' => by cases hd'
  gro := fun hg => by
    have := (h.keep hd).1
    exact absurd (hg.symm.trans this) (by decide)
  inR := h.inR
theorem grow_page {w w' : World} {p : Pg ByteArray} {A : Option Addr} {c g cap : Nat} (h : PageT w p) (hL : p.L = .slice A (curL textF p.v).length c) (hd : p.v.done = true)
    (hown : w'.ownsRow 0 9 1 (.slice (some ⟨g, 0, none⟩) ((curL textF p.v).length + 64) cap) ((curL textF p.v).length + 64) ((curL textF p.v).map Value.string ++ txts (p.v.id + 100000) 64)) (htx : TxtAt w' (.slice A (curL textF p.v).length c) (curL textF p.v)) :
    PageT w' { p with v := growV p.v, G := .slice (some ⟨g, 0, none⟩) ((curL textF p.v).length + 64) cap, F := fun q => p.F q ∨ q = g } where
  form := by obtain ⟨A, c, e⟩ := h.form; exact ⟨A, c, e⟩
  small := h.small
  own := fun hg => by cases hg
  keep := fun hd' => absurd (hd'.symm.trans hd) (by decide)
  gro := fun _ => ⟨hd, by
    show w'.ownsRow 0 9 1 _ (p.v.was.length + 64) (((curL textF p.v ++ marksL textF (p.v.id + 100000) 64)).map encT).flatten
    rw [flatT, List.map_append, ← curL_len textF p.v]
    exact hown, by
    show RowAt w' _ 1 p.L ((curL textF p.v).map encT)
    rw [hL]
    exact TxtAt.to_row htx fun q hq => .inl (h.inR q (.inl (by rw [hL]; exact hq)))⟩
  inR := fun q hq => by
    rcases hq with hq | hq | hq
    · exact .inl (h.inR q (.inl hq))
    · exact .inr (Option.some.inj hq).symm
    · exact .inl (h.inR q (.inr (.inr hq)))
/-- Pages turned from k on up. -/
structure Turned (w : World) (f : PageV ByteArray → PageV ByteArray) (ps qs : List (Pg ByteArray)) (k : Nat) : Prop where
  len : qs.length = ps.length
  lo : ∀ j (h : j < qs.length) (h' : j < ps.length), j < k → qs[j].v = f ps[j].v
  hi : ∀ j (h : j < qs.length) (h' : j < ps.length), k ≤ j → qs[j].v = ps[j].v
  inF : ∀ j (h : j < qs.length) (h' : j < ps.length) q, qs[j].F q → ps[j].F q ∨ w.heap.size ≤ q
theorem Turned.refl (w : World) (f : PageV ByteArray → PageV ByteArray) (ps : List (Pg ByteArray)) : Turned w f ps ps 0 := ⟨rfl, fun _ _ _ h => by omega, fun _ _ _ _ => rfl, fun _ _ _ q h => .inl h⟩
theorem Turned.stay {w : World} {f : PageV ByteArray → PageV ByteArray} {ps qs : List (Pg ByteArray)} {k : Nat} (h : Turned w f ps qs k) (hk : k < qs.length) (hf : f qs[k].v = qs[k].v) : Turned w f ps qs (k + 1) where
  len := h.len
  lo := fun j h1 h2 hlt => by
    by_cases e : j = k
    · subst e
      rw [← hf, h.hi j h1 h2 (Nat.le_refl _)]
    · exact h.lo j h1 h2 (by omega)
  hi := fun j h1 h2 hle => h.hi j h1 h2 (by omega)
  inF := h.inF
theorem Turned.set {w : World} {f : PageV ByteArray → PageV ByteArray} {ps qs : List (Pg ByteArray)} {k : Nat} (h : Turned w f ps qs k) (hk : k < qs.length) (p' : Pg ByteArray) (hf : p'.v = f qs[k].v) (hF : ∀ q, p'.F q → qs[k].F q ∨ w.heap.size ≤ q) : Turned w f ps (qs.set k p') (k + 1) where
  len := by rw [List.length_set]; exact h.len
  lo := fun j h1 h2 hlt => by
    have h1' : j < qs.length := by rw [List.length_set] at h1; exact h1
    by_cases e : j = k
    · subst e
      rw [List.getElem_set_self, hf, h.hi j h1' h2 (Nat.le_refl _)]
    · rw [List.getElem_set_ne (Ne.symm e)]
      exact h.lo j h1' h2 (by omega)
  hi := fun j h1 h2 hle => by
    have h1' : j < qs.length := by rw [List.length_set] at h1; exact h1
    rw [List.getElem_set_ne (by omega)]
    exact h.hi j h1' h2 (by omega)
  inF := fun j h1 h2 q hq => by
    have h1' : j < qs.length := by rw [List.length_set] at h1; exact h1
    by_cases e : j = k
    · subst e
      rw [List.getElem_set_self] at hq
      rcases hF q hq with h3 | h3
      · exact h.inF j h1' h2 q h3
      · exact .inr h3
    · rw [List.getElem_set_ne (Ne.symm e)] at hq
      exact h.inF j h1' h2 q hq
/-- The books while their lists are turned one by one. -/
structure KeepInv (w : World) (kb : Nat) (bc : Array Value) (Tv : Value) (f : PageV ByteArray → PageV ByteArray) (ps : List (Pg ByteArray)) (wr : World) (k : Nat) (qs : List (Pg ByteArray)) : Prop where
  le : k ≤ ps.length
  book : BookT wr kb bc Tv qs
  tur : Turned w f ps qs k
  ch : Ch (BookF Tv ps) w wr
theorem KeepInv.stay {w wr : World} {kb : Nat} {bc : Array Value} {Tv : Value} {f : PageV ByteArray → PageV ByteArray} {ps qs : List (Pg ByteArray)} {k : Nat} (h : KeepInv w kb bc Tv f ps wr k qs) (hk : k < ps.length) (hk' : k < qs.length) (hf : f qs[k].v = qs[k].v) : KeepInv w kb bc Tv f ps wr (k + 1) qs :=
  ⟨hk, h.book, h.tur.stay hk' hf, h.ch⟩
theorem KeepInv.turn {w wr w' : World} {kb : Nat} {bc : Array Value} {Tv : Value} {f : PageV ByteArray → PageV ByteArray} {ps qs : List (Pg ByteArray)} {k : Nat} {D : Nat → Prop} {tb cap : Nat} {cs : Array Value} (h : KeepInv w kb bc Tv f ps wr k qs) (hk : k < ps.length) (hk' : k < qs.length) (hT : Tv = .slice (some ⟨tb, 0, none⟩) qs.length cap)
    (hcs : wr.heap[tb]? = some (.cells cs 68 (0, 0))) (i : Nat) (hi : i < 5) (u : Value) (hcs' : w'.heap[tb]? = some (.cells (cs.setIfInBounds (k * 5 + i) u) 68 (0, 0))) (hc : Ch (fun q => q = tb ∨ D q) wr w') (hD : ∀ q, D q → qs[k].F q) (p' : Pg ByteArray)
    (hp' : p'.cells = qs[k].cells.set i u) (hpg : PageT w' p') (hF : ∀ q, p'.F q → (qs[k].F q ∨ wr.heap.size ≤ q) ∧ q < w'.heap.size) (hid : p'.v.id = qs[k].v.id) (hf : p'.v = f qs[k].v) : KeepInv w kb bc Tv f ps w' (k + 1) (qs.set k p') := by
  have hs := h.ch.size
  refine ⟨hk, h.book.turn k hk' hT hcs i hi u hcs' hc hD p' hp' hpg hF hid, h.tur.set hk' p' hf (fun q hq => ?_), h.ch.trans hc ?_⟩
  · rcases (hF q hq).1 with h1 | h1
    · exact .inl h1
    · exact .inr (by omega)
  · rintro q (rfl | hd)
    · exact .inl (.inl (by rw [hT]; rfl))
    · rcases h.tur.inF k hk' hk q (hD q hd) with h1 | h1
      · exact .inl (.inr ⟨k, hk, h1⟩)
      · exact .inr h1

theorem meas_k (n k : Nat) (h : k < n) : n - ((k : Int) + 1).toNat < n - k := by omega
theorem cells_at {w : World} {tb : Nat} {cs : Array Value} {t : TypeId} {p : Pg ByteArray} {k : Nat} (hcs : w.heap[tb]? = some (.cells cs t (0, 0))) (hx : ∀ i u, p.cells[i]? = some u → cs[k * 5 + i]? = some u) :
    w.cell? ⟨tb, k * 5, none⟩ = some p.L ∧ w.cell? ⟨tb, k * 5 + 1, none⟩ = some p.G ∧ w.cell? ⟨tb, k * 5 + 2, none⟩ = some p.W ∧ w.cell? ⟨tb, k * 5 + 3, none⟩ = some (.int .i64 p.v.id) ∧ w.cell? ⟨tb, k * 5 + 4, none⟩ = some (.bool p.v.done) :=
  ⟨(cell_of_blk hcs).trans (hx 0 _ rfl), (cell_of_blk hcs).trans (hx 1 _ rfl), (cell_of_blk hcs).trans (hx 2 _ rfl), (cell_of_blk hcs).trans (hx 3 _ rfl), (cell_of_blk hcs).trans (hx 4 _ rfl)⟩

set_option maxRecDepth 100000 in
theorem fillTexts_any {w : World} {kb : Nat} {bc : Array Value} {Tv : Value} {ps : List (Pg ByteArray)} (h : BookT w kb bc Tv ps) :
    Calls Tryz.prog 36 #[.pointer (some ⟨kb, 0, none⟩)] w fun e w' => e = .returned (.tuple #[]) ∧ ∃ qs, KeepInv w kb bc Tv fillV ps w' ps.length qs := by
  have HI := Lib.hid (show KeepInv w kb bc Tv fillV ps w 0 ps from ⟨Nat.zero_le _, h, Turned.refl _ _ _, Ch.refl _ _⟩)
  clear h
  go_enter Tryz.func36, Tryz.ntmps36
  go_wp2
  go_loopw [2] (fun i wr => ∃ k : Nat, i = .int .i64 (k : Int) ∧ ∃ qs, KeepInv w kb bc Tv fillV ps wr k qs) (fun i _ => ps.length - (intOf i).toNat)
  case atStart => exact ⟨0, rfl, ps, HI.out⟩
  case round =>
    obtain ⟨k, rfl, qs, hinv⟩ := hrel
    have HINV := Lib.hid hinv
    have hle := hinv.le
    have hlen := hinv.tur.len
    have hsm := hinv.book.len
    have hb0 := hinv.book.blk
    have b4 : wr.cell? ⟨kb, 4, none⟩ = some Tv := by rw [cell_of_blk hb0]; exact hinv.book.c4
    clear hinv
    by_cases hlt : k < ps.length
    · have hk' : k < qs.length := by omega
      obtain ⟨tb, cap, cs, hTv, hcs, hx⟩ := HINV.out.book.pages.at_ k hk'
      obtain ⟨c0, c1, c2, c3, c4⟩ := cells_at hcs hx
      have HX := Lib.hid hx
      have HT := Lib.hid hTv
      have hmu := meas_k ps.length k hlt
      have hwk := wrap_up k (by omega)
      rw [hTv, hlen] at b4
      clear hx
      cases hd : qs[k].v.done with
      | true =>
        rw [hd] at c4
        have HF := Lib.hid (show fillV qs[k].v = qs[k].v from by unfold fillV; rw [← hd])
        go_wp2
        go_roundw
        case rel => exact ⟨k + 1, by go_num, qs, HINV.out.stay hlt hk' HF.out⟩
        case measure => simpa [intOf] using hmu
      | false =>
        rw [hd] at c4
        have hpg := HINV.out.book.pages.page k hk'
        obtain ⟨A, c, hL⟩ := hpg.form
        have hg := (hpg.keep hd).1
        have hown := (hpg.own hg).1
        rw [flatT, hL] at hown
        have hcl := curL_len textF qs[k].v
        have hids := HINV.out.book.ids k hk'
        have htop := HINV.out.book.pages.top k hk'
        have hout := HINV.out.book.out k hk'
        have htout := HINV.out.book.tout tb (by rw [HT.out]; rfl)
        have hfill := fill_any (w := wr) (pb := tb) (po := k * 5) (A := A) (n := qs[k].v.was.length) (c := c) (id := qs[k].v.id) (d := false) (xs := (curL textF qs[k].v).map Value.string) hcs (by rw [← hL]; exact HX.out 0 _ rfl) (HX.out 3 _ rfl) (by rw [← hd]; exact HX.out 4 _ rfl) hown
          (fun q hq e => htop q (hpg.inR q (.inl (by rw [hL]; exact hq))) (by rw [HT.out, e]; rfl)) hpg.small hids
          (fun W hW => HINV.out.book.pow.ch hW fun q hq => (hout q (hpg.inR q (.inl (by rw [hL]; exact hq)))).2)
        have HL := Lib.hid hL
        have HCS := Lib.hid hcs
        clear hown hcl hids htop hout htout hg hL c0 c1 c2 c3 hpg hcs
        go_wp2_with (go_at_call 30; refine hfill.mono ?_; rintro en w1 ⟨rfl, h1, h2, h3⟩; have HNEW := Lib.hid (And.intro h1 (And.intro h2 h3)); clear h1 h2 h3 hfill)
        go_roundw
        case rel =>
          refine ⟨k + 1, by go_num, qs.set k { qs[k] with v := fillV qs[k].v }, ?_⟩
          have hpg := HINV.out.book.pages.page k hk'
          refine HINV.out.turn (D := fun q => (Value.slice A qs[k].v.was.length c).ownBlock = some q) hlt hk' HT.out HCS.out 4 (by decide) (.bool true) HNEW.out.1 HNEW.out.2.2 (fun q hq => hpg.inR q (.inl (by rw [HL.out]; exact hq))) _ rfl (fill_page hpg HL.out hd HNEW.out.2.1) (fun q hq => ⟨.inl hq, ?_⟩) rfl rfl
          exact Nat.lt_of_lt_of_le (HINV.out.book.pages.lt k hk' q hq) HNEW.out.2.2.size
        case measure => simpa [intOf] using hmu
    · obtain rfl : k = ps.length := by omega
      obtain ⟨A, c, hTv⟩ := own_form HINV.out.book.pages.own
      rw [hTv, hlen] at b4
      go_wp2
      go_end0
      exact ⟨rfl, qs, HINV.out⟩
set_option maxRecDepth 100000 in
theorem growTexts_any {w : World} {kb : Nat} {bc : Array Value} {Tv : Value} {ps : List (Pg ByteArray)} (h : BookT w kb bc Tv ps) (hdone : ∀ j (hj : j < ps.length), ps[j].v.done = true) :
    Calls Tryz.prog 56 #[.pointer (some ⟨kb, 0, none⟩)] w fun e w' => e = .returned (.tuple #[]) ∧ ∃ qs, KeepInv w kb bc Tv growV ps w' ps.length qs := by
  have HI := Lib.hid (show KeepInv w kb bc Tv growV ps w 0 ps from ⟨Nat.zero_le _, h, Turned.refl _ _ _, Ch.refl _ _⟩)
  have HD := Lib.hid hdone
  clear h hdone
  go_enter Tryz.func56, Tryz.ntmps56
  go_wp2
  go_loopw [2] (fun i wr => ∃ k : Nat, i = .int .i64 (k : Int) ∧ ∃ qs, KeepInv w kb bc Tv growV ps wr k qs) (fun i _ => ps.length - (intOf i).toNat)
  case atStart => exact ⟨0, rfl, ps, HI.out⟩
  case round =>
    obtain ⟨k, rfl, qs, hinv⟩ := hrel
    have HINV := Lib.hid hinv
    have hle := hinv.le
    have hlen := hinv.tur.len
    have hsm := hinv.book.len
    have hb0 := hinv.book.blk
    have b4 : wr.cell? ⟨kb, 4, none⟩ = some Tv := by rw [cell_of_blk hb0]; exact hinv.book.c4
    clear hinv
    by_cases hlt : k < ps.length
    · have hk' : k < qs.length := by omega
      have hd : qs[k].v.done = true := by rw [HINV.out.tur.hi k hk' hlt (Nat.le_refl _)]; exact HD.out k hlt
      have HDK := Lib.hid hd
      obtain ⟨tb, cap, cs, hTv, hcs, hx⟩ := HINV.out.book.pages.at_ k hk'
      obtain ⟨c0, c1, c2, c3, c4⟩ := cells_at hcs hx
      have HX := Lib.hid hx
      have HT := Lib.hid hTv
      have hmu := meas_k ps.length k hlt
      have hwk := wrap_up k (by omega)
      rw [hTv, hlen] at b4
      clear hx hd
      have hpg := HINV.out.book.pages.page k hk'
      cases hg : qs[k].v.grown with
      | true =>
        have hgo := (hpg.gro hg).2.1
        rw [flatT] at hgo
        obtain ⟨B, d, hGv⟩ := own_form hgo
        have hsml := hpg.small
        rw [hGv] at c1
        have HF := Lib.hid (show growV qs[k].v = qs[k].v from by unfold growV; rw [← hg])
        have hn0 : ¬ ((qs[k].v.was.length : Int) + 64 = 0) := by omega
        have hn1 : ((qs[k].v.was.length : Int) + 64 == 0) = false := by rw [beq_eq_false_iff_ne]; omega
        clear hgo hGv c0 c2 c3 c4 hpg hsml
        go_wp2
        go_roundw
        case rel => exact ⟨k + 1, by go_num, qs, HINV.out.stay hlt hk' HF.out⟩
        case measure => simpa [intOf] using hmu
      | false =>
        have hGn := (hpg.own hg).2
        rw [hGn] at c1
        obtain ⟨A, c, hL⟩ := hpg.form
        have hcl := curL_len textF qs[k].v
        rw [← hcl] at hL
        have hown := (hpg.own hg).1
        rw [flatT, hL, ← hcl] at hown
        have hids := HINV.out.book.ids k hk'
        have htop := HINV.out.book.pages.top k hk'
        have hout := HINV.out.book.out k hk'
        have htout := HINV.out.book.tout tb (by rw [HT.out]; rfl)
        have hsml := hpg.small
        have hgrow := grow_any (w := wr) (pb := tb) (po := k * 5) (A := A) (c := c) (id := qs[k].v.id) (l := curL textF qs[k].v) hcs (by rw [← hL]; exact HX.out 0 _ rfl) (HX.out 1 _ rfl) (HX.out 3 _ rfl) hown
          (fun q hq e => htop q (hpg.inR q (.inl (by rw [hL]; exact hq))) (by rw [HT.out, e]; rfl)) (by omega) hids
          (fun W hW => HINV.out.book.pow.ch hW fun q hq => by
            rcases hq with rfl | hq
            · exact htout.2
            · exact (hout q (hpg.inR q (.inl (by rw [hL]; exact hq)))).2)
        have HL := Lib.hid hL
        have HCS := Lib.hid hcs
        clear hown hcl hids htop hout htout hL c0 c2 c3 c4 hpg hcs hsml hGn
        go_wp2_with (go_at_call 31; refine hgrow.mono ?_; rintro en w1 ⟨rfl, g, gc, h1, h2, h3, h4, h5⟩; have HNEW := Lib.hid (And.intro h1 (And.intro h2 (And.intro h3 (And.intro h4 h5)))); clear h1 h2 h3 h4 h5 hgrow)
        go_roundw
        case rel =>
          refine ⟨k + 1, by go_num, qs.set k { qs[k] with v := growV qs[k].v, G := .slice (some ⟨g, 0, none⟩) ((curL textF qs[k].v).length + 64) gc, F := fun q => qs[k].F q ∨ q = g }, ?_⟩
          have hpg := HINV.out.book.pages.page k hk'
          have hgl := (HNEW.out.2.1.lt g rfl).2
          refine HINV.out.turn (D := fun q => (Value.slice A (curL textF qs[k].v).length c).ownBlock = some q) hlt hk' HT.out HCS.out 1 (by decide) _ HNEW.out.1 HNEW.out.2.2.2.2 (fun q hq => hpg.inR q (.inl (by rw [HL.out]; exact hq))) _ rfl (grow_page hpg HL.out HDK.out HNEW.out.2.1 HNEW.out.2.2.2.1) (fun q hq => ?_) rfl rfl
          rcases hq with hq | rfl
          · exact ⟨.inl hq, Nat.lt_of_lt_of_le (HINV.out.book.pages.lt k hk' q hq) HNEW.out.2.2.2.2.size⟩
          · refine ⟨?_, hgl⟩
            rcases HNEW.out.2.2.1 with h1 | h1
            · exact .inl (hpg.inR _ (.inl (by rw [HL.out]; exact h1)))
            · exact .inr h1
        case measure => simpa [intOf] using hmu
    · obtain rfl : k = ps.length := by omega
      obtain ⟨A, c, hTv⟩ := own_form HINV.out.book.pages.own
      rw [hTv, hlen] at b4
      go_wp2
      go_end0
      exact ⟨rfl, qs, HINV.out⟩

set_option maxRecDepth 100000 in
theorem intactTexts_any {w : World} {kb : Nat} {bc : Array Value} {Tv : Value} {ps : List (Pg ByteArray)} (h : BookT w kb bc Tv ps) :
    Calls Tryz.prog 91 #[.pointer (some ⟨kb, 0, none⟩)] w fun e w' => e = .returned (.bool true) ∧ Below w.heap.size w w' := by
  have HB := Lib.hid h
  clear h
  go_enter Tryz.func91, Tryz.ntmps91
  go_wp2
  go_loopw [3] (fun i wr => ∃ k : Nat, i = .int .i64 (k : Int) ∧ k ≤ ps.length ∧ Below w.heap.size w wr) (fun i _ => ps.length - (intOf i).toNat)
  case atStart => exact ⟨0, rfl, Nat.zero_le _, Below.refl _ _⟩
  case round =>
    obtain ⟨k, rfl, hle, hbr⟩ := hrel
    have HINV := Lib.hid (HB.out.below hbr)
    have hsm := HINV.out.len
    have hb0 := HINV.out.blk
    have b4 : wr.cell? ⟨kb, 4, none⟩ = some Tv := by rw [cell_of_blk hb0]; exact HINV.out.c4
    by_cases hlt : k < ps.length
    · obtain ⟨tb, cap, cs, hTv, hcs, hx⟩ := HINV.out.pages.at_ k hlt
      obtain ⟨c0, c1, c2, c3, c4⟩ := cells_at hcs hx
      have hmu := meas_k ps.length k hlt
      have hwk := wrap_up k (by omega)
      rw [hTv] at b4
      have hsh := shows_any (HINV.out.pages.page k hlt) (HINV.out.ids k hlt) HINV.out.pow
      clear hx hcs hTv
      go_wp2_with (go_at_call 173; refine hsh.mono ?_; rintro en w1 ⟨rfl, hb1⟩; clear hsh)
      go_roundw
      case rel => exact ⟨k + 1, by go_num, hlt, hbr.trans (hb1.mono hbr.size)⟩
      case measure => simpa [intOf] using hmu
    · obtain rfl : k = ps.length := by omega
      obtain ⟨A, c, hTv⟩ := own_form HINV.out.pages.own
      rw [hTv] at b4
      go_wp2
      go_ret
      exact ⟨rfl, hbr⟩
end Go.Proofs.YtplocldnklccfaaGreatDoor
