/- daybookkeep: a page shows what it ought to. Printed by gen_keepshow.py; daybookkeep: the lists of texts of a book: in memory, and one of them looked at; daybookkeep: marks that are accounts; a copy with marks behind it, and looked at again; daybookkeep: a list of accounts is written over. Printed by gen_kafill.py. -/
import Derived.Test.YtplocldnklccfaaGreatDoorPack7
import Derived.Test.YtplocldnklccfaaGreatDoorPack5
import Derived.Test.YtplocldnklccfaaGreatDoorPack6
namespace Go.Proofs.YtplocldnklccfaaGreatDoor
theorem qa8 {T : Type} (l : List T) (i : Nat) (a : T) : l.toArray.setIfInBounds i a = (l.set i a).toArray := List.setIfInBounds_toArray l i a
theorem qb8 {T : Type} {x : T} {xs : List T} {a : T} : (x :: xs).set 0 a = a :: xs := List.set_cons_zero
theorem qc8 {T : Type} {x : T} {xs : List T} {i : Nat} {a : T} : (x :: xs).set (i + 1) a = x :: xs.set i a := List.set_cons_succ
theorem qd8 {T : Type} {xs : List T} {i : Nat} (h : i < xs.toArray.size) : xs.toArray[i] = xs[i]'(by simpa using h) := List.getElem_toArray h
theorem qe8 {T : Type} (a : T) (ys : List T) (i : Nat) (h : i + 1 < (a :: ys).length) : (a :: ys)[i + 1] = ys[i]'(by simpa using h) := List.getElem_cons_succ a ys i h
theorem qf8 {T : Type} (a : T) (ys : List T) (h : 0 < (a :: ys).length) : (a :: ys)[0] = a := List.getElem_cons_zero a ys h
open Go.RowKit
set_option linter.unusedVariables false
set_option linter.unusedSimpArgs false

theorem sameT_one (r : ByteArray) (W : World) : Calls Tryz.prog 230 #[.string r, .string r] W fun e w' => e = .returned (.bool true) ∧ w' = W := by
  have h := sameT_any W r r
  rw [beq_self_eq_true] at h
  exact h
theorem meas_up (n k : Nat) (h : k < n) : n - ((k : Int) + 1).toNat < n - k := by omega
theorem wrap_up (k : Nat) (h : k ≤ 4194304) : wrap64 ((k : Int) + 1) = (k : Int) + 1 := by unfold wrap64; omega
theorem wrap_down (n k : Nat) (hk : n ≤ k) (h : k ≤ 4194304) : wrap64 ((k : Int) - (n : Int)) = (k : Int) - (n : Int) := by unfold wrap64; omega
theorem wrap_down' (n k : Nat) (hk : n ≤ k) (h : k ≤ 4194304) : IntKind.i64.wrap ((k : Int) - (n : Int)) = (k : Int) - (n : Int) := IntWalk.i64_in _ (by omega)
theorem TxtAt.at_ {w : World} {A : Option Addr} {n c : Nat} {xs : List ByteArray} (h : TxtAt w (.slice A n c) xs) : ∀ j (hj : j < xs.length), ∃ ad, A = some ad ∧ ad.block < w.heap.size ∧ w.cell? (ad.add j) = some (.string xs[j]) := by
  obtain ⟨A', c', hf, hx⟩ := h
  injection hf with h1 h2 _
  subst h1
  exact hx
theorem cell_old {w w' : World} {ad : Addr} {j : Nat} {v : Value} {o : Obj} (hc : w.cell? (ad.add j) = some v) (hl : ad.block < w.heap.size) (hb : Below (w.alloc o).heap.size (w.alloc o) w') : w'.cell? (ad.add j) = some v := by
  rw [← hc]
  refine World.cell?_of_block ?_
  rw [block_add]
  exact (hb.block _ (by rw [World.size_alloc]; omega)).trans (Below.heap_alloc w o _ hl)
theorem cell_box {w w' : World} {cs : Array Value} {t : TypeId} (j : Nat) (hb : Below (w.alloc (.cells cs t (0, 0))).heap.size (w.alloc (.cells cs t (0, 0))) w') : w'.cell? ⟨w.heap.size, j, none⟩ = cs[j]? := by
  have h : w'.heap[w.heap.size]? = some (.cells cs t (0, 0)) := by
    rw [hb.block w.heap.size (by rw [World.size_alloc]; omega)]
    exact World.alloc_heap_new w _
  exact cell_of_blk h
theorem box_below {w w' : World} {o : Obj} (hb : Below (w.alloc o).heap.size (w.alloc o) w') : Below w.heap.size w w' :=
  (bel1 w o).trans (hb.mono (by rw [World.size_alloc]; omega))

theorem and_range {id : Int} (h : 0 ≤ id ∧ id ≤ 1048576) : -9223372036854775808 ≤ id ∧ id ≤ 9223372036854775807 := by omega
theorem and_range2 {id : Int} (h : 0 ≤ id ∧ id ≤ 1048576) : -9223372036854775808 ≤ id + 100000 ∧ id + 100000 ≤ 9223372036854775807 := by omega
theorem nat_range (k : Nat) (h : k ≤ 4194304) : -9223372036854775808 ≤ (k : Int) ∧ (k : Int) ≤ 9223372036854775807 := by omega
theorem sub_range (n k : Nat) (hk : n ≤ k) (h : k ≤ 4194304) : -9223372036854775808 ≤ (k : Int) - (n : Int) ∧ (k : Int) - (n : Int) ≤ 9223372036854775807 := by omega

set_option maxRecDepth 100000 in
set_option maxHeartbeats 4000000 in
theorem shows_kept {w : World} {A B : Option Addr} {c d : Nat} {id : Int} {xs : List ByteArray} (hL : TxtAt w (.slice A xs.length c) xs) (hW : TxtAt w (.slice B xs.length d) xs) (hn : xs.length ≤ 1048576) :
    Calls Tryz.prog 173 #[.agg #[.slice A xs.length c, .slice none 0 0, .slice B xs.length d, .int .i64 id, .bool false]] w fun e w' => e = .returned (.bool true) ∧ Below w.heap.size w w' := by
  have HX := Lib.hid hL.at_
  have HX' := Lib.hid hW.at_
  clear hL hW
  go_enter Tryz.func173, Tryz.ntmps173
  go_wp2
  obtain ⟨wa, hwa⟩ : ∃ wa, wa = w.alloc (.cells #[.slice A xs.length c, .slice none 0 0, .slice B xs.length d, .int .i64 id, .bool false] 68) := ⟨_, rfl⟩
  have HWA := Lib.hid hwa
  rw [← hwa]
  clear hwa
  have HC := Lib.hid (fun W (hb : Below wa.heap.size wa W) => (show W.cell? ⟨w.heap.size, 0, none⟩ = some (.slice A xs.length c) ∧ W.cell? ⟨w.heap.size, 1, none⟩ = some (.slice none 0 0) ∧ W.cell? ⟨w.heap.size, 2, none⟩ = some (.slice B xs.length d) ∧ W.cell? ⟨w.heap.size, 3, none⟩ = some (.int .i64 id) ∧ W.cell? ⟨w.heap.size, 4, none⟩ = some (.bool false) from by rw [HWA.out] at hb; exact ⟨cell_box 0 hb, cell_box 1 hb, cell_box 2 hb, cell_box 3 hb, cell_box 4 hb⟩))
  go_loopw [4] (fun i wr => ∃ k : Nat, i = .int .i64 (k : Int) ∧ k ≤ xs.length ∧ Below wa.heap.size wa wr) (fun i _ => xs.length - (intOf i).toNat)
  case atStart => exact ⟨0, rfl, Nat.zero_le _, Below.refl _ _⟩
  case round =>
    obtain ⟨k, rfl, hk, hbr⟩ := hrel
    by_cases hlt : k < xs.length
    · obtain ⟨ad, rfl, hl, hc⟩ := HX.out k hlt
      have hmu := meas_up xs.length k hlt
      have hwk := wrap_up k (by omega)
      have HE := Lib.hid (fun W (hb : Below wa.heap.size wa W) => (show W.cell? (ad.add k) = some (.string xs[k]) from by rw [HWA.out] at hb; exact cell_old hc hl hb))
      obtain ⟨ad', rfl, hl', hc'⟩ := HX'.out k hlt
      have HE' := Lib.hid (fun W (hb : Below wa.heap.size wa W) => (show W.cell? (ad'.add k) = some (.string xs[k]) from by rw [HWA.out] at hb; exact cell_old hc' hl' hb))
      have e0 := HE.out wr hbr
      have e1 := HE'.out wr hbr
      obtain ⟨r, hr⟩ : ∃ r, r = xs[k] := ⟨_, rfl⟩
      rw [← hr] at e0 e1
      obtain ⟨c0, c1, c2, c3, c4⟩ := HC.out wr hbr
      clear hr hc hc' hl hl'
      go_wp2
      go_quiet ((go_at_call 230; refine Calls.quiet_of_same (sameT_one _ _)))
      go_wp2
      go_quiet (fail)
      go_wp2
      go_roundw
      case rel => exact ⟨k + 1, by go_num, by omega, by repeat (first | exact hbr | refine below_drewN ?_ _)⟩
      case measure => simpa [intOf] using hmu
    · obtain rfl : k = xs.length := by omega
      obtain ⟨c0, c1, c2, c3, c4⟩ := HC.out wr hbr
      go_wp2
      obtain ⟨w8, h8⟩ : ∃ w8, w8 = wr := ⟨_, rfl⟩
      subst h8
      go_loopw [5] (fun i wr => i = .int .i64 (xs.length : Int) ∧ Below wa.heap.size wa wr) (fun _ _ => 0)
      case atStart => exact ⟨rfl, hbr⟩
      case round =>
        obtain ⟨rfl, hbr⟩ := hrel
        obtain ⟨c0, c1, c2, c3, c4⟩ := HC.out wr hbr
        have hnn : ¬ ((xs.length : Int) < 0) := by omega
        go_wp2
        go_ret
        exact ⟨rfl, box_below (by rw [HWA.out] at hbr; repeat (first | exact hbr | refine below_drewN ?_ _))⟩


set_option maxRecDepth 100000 in
set_option maxHeartbeats 4000000 in
theorem shows_filled {w : World} {A : Option Addr} {V : Value} {c : Nat} {id : Int} {xs : List ByteArray} (hL : TxtAt w (.slice A xs.length c) xs) (hxs : ∀ j (hj : j < xs.length), xs[j] = textF id (j : Int)) (hn : xs.length ≤ 1048576) (hid : 0 ≤ id ∧ id ≤ 1048576) (hp : Pow w) :
    Calls Tryz.prog 173 #[.agg #[.slice A xs.length c, .slice none 0 0, V, .int .i64 id, .bool true]] w fun e w' => e = .returned (.bool true) ∧ Below w.heap.size w w' := by
  have HX := Lib.hid hL.at_
  have HP := Lib.hid hp
  have HXS := Lib.hid hxs
  clear hL hp hxs
  go_enter Tryz.func173, Tryz.ntmps173
  go_wp2
  obtain ⟨wa, hwa⟩ : ∃ wa, wa = w.alloc (.cells #[.slice A xs.length c, .slice none 0 0, V, .int .i64 id, .bool true] 68) := ⟨_, rfl⟩
  have HWA := Lib.hid hwa
  rw [← hwa]
  clear hwa
  have HC := Lib.hid (fun W (hb : Below wa.heap.size wa W) => (show W.cell? ⟨w.heap.size, 0, none⟩ = some (.slice A xs.length c) ∧ W.cell? ⟨w.heap.size, 1, none⟩ = some (.slice none 0 0) ∧ W.cell? ⟨w.heap.size, 2, none⟩ = some (V) ∧ W.cell? ⟨w.heap.size, 3, none⟩ = some (.int .i64 id) ∧ W.cell? ⟨w.heap.size, 4, none⟩ = some (.bool true) from by rw [HWA.out] at hb; exact ⟨cell_box 0 hb, cell_box 1 hb, cell_box 2 hb, cell_box 3 hb, cell_box 4 hb⟩))
  go_loopw [4] (fun i wr => ∃ k : Nat, i = .int .i64 (k : Int) ∧ k ≤ xs.length ∧ Below wa.heap.size wa wr) (fun i _ => xs.length - (intOf i).toNat)
  case atStart => exact ⟨0, rfl, Nat.zero_le _, Below.refl _ _⟩
  case round =>
    obtain ⟨k, rfl, hk, hbr⟩ := hrel
    by_cases hlt : k < xs.length
    · obtain ⟨ad, rfl, hl, hc⟩ := HX.out k hlt
      have hmu := meas_up xs.length k hlt
      have hwk := wrap_up k (by omega)
      have HE := Lib.hid (fun W (hb : Below wa.heap.size wa W) => (show W.cell? (ad.add k) = some (.string xs[k]) from by rw [HWA.out] at hb; exact cell_old hc hl hb))
      simp only [HXS.out k hlt] at HE
      have e0 := HE.out wr hbr
      obtain ⟨c0, c1, c2, c3, c4⟩ := HC.out wr hbr
      clear hc hl
      go_wp2
      go_quiet (fail)
      go_wp2
      obtain ⟨wq, hwq⟩ : ∃ wq, wq = wr.drewN nq := ⟨_, rfl⟩
      rw [← hwq]
      have hbq : Below wa.heap.size wa wq := by rw [hwq]; exact below_drewN hbr _
      clear hwq c0 c1 c2 c3 c4 e0 hbr
      have HP2 := Lib.hid (fun W (hb : Below wq.drew.heap.size wq.drew W) => (show Pow W from (HP.out.below (box_below (by rw [← HWA.out]; exact hbq.trans (show Below wa.heap.size wq W from ⟨hb.os, hb.tape, hb.output, hb.size, fun q hq => hb.block q (Nat.lt_of_lt_of_le hq hbq.size)⟩))))))
      have HUP := Lib.hid (fun W (hb : Below wq.drew.heap.size wq.drew W) => (show Below wa.heap.size wa W from hbq.trans ⟨hb.os, hb.tape, hb.output, hb.size, fun q hq => hb.block q (Nat.lt_of_lt_of_le hq hbq.size)⟩))
      have HS := Lib.hid (fun W (hb : Below wq.drew.heap.size wq.drew W) => (show W.cell? ⟨w.heap.size, 0, none⟩ = some (.slice (some ad) xs.length c) ∧ W.cell? ⟨w.heap.size, 1, none⟩ = some (.slice none 0 0) ∧ W.cell? ⟨w.heap.size, 3, none⟩ = some (.int .i64 id) ∧ W.cell? ⟨w.heap.size, 4, none⟩ = some (.bool true) ∧ W.cell? (ad.add k) = some (.string (textF id (k : Int))) from by
        obtain ⟨c0, c1, c2, c3, c4⟩ := HC.out W (HUP.out W hb)
        exact ⟨c0, c1, c3, c4, HE.out _ (HUP.out W hb)⟩))
      have hHeld := HS.out wq.drew (Below.refl _ _)
      have hmk := markTexts_any wq.drew (HP2.out _ (Below.refl _ _)) id (k : Int) (and_range hid) (nat_range k (by omega))
      refine wp_region_n (n := 34) (S := fun w' => w'.cell? ⟨w.heap.size, 0, none⟩ = some (.slice (some ad) xs.length c) ∧ w'.cell? ⟨w.heap.size, 1, none⟩ = some (.slice none 0 0) ∧ w'.cell? ⟨w.heap.size, 3, none⟩ = some (.int .i64 id) ∧ w'.cell? ⟨w.heap.size, 4, none⟩ = some (.bool true) ∧ w'.cell? (ad.add k) = some (.string (textF id (k : Int)))) (by kernel_rfl) ?_
      refine wpAnyN_take (i := 0) (v := ?_) rfl (by kernel_rfl) (by kernel_rfl) (by kernel_rfl) (by kernel_rfl) (fun _ _ _ h => h) (Or.inl ⟨by kernel_rfl, ?y1⟩) hHeld ?_
      case y1 =>
        intro w0 hSw
        (try dsimp only at hSw)
        go_simp
        try with_reducible rfl
      try simp only [Act.put, qa8, qb8, qc8, qd8, qe8, qf8]
      refine wpAnyN_take (i := 1) (v := ?_) rfl (by kernel_rfl) (by kernel_rfl) (by kernel_rfl) (by kernel_rfl) (fun _ _ _ h => h) (Or.inl ⟨by kernel_rfl, ?y2⟩) hHeld ?_
      case y2 =>
        intro w0 hSw
        (try dsimp only at hSw)
        go_simp
        try with_reducible rfl
      try simp only [Act.put, qa8, qb8, qc8, qd8, qe8, qf8]
      refine wpAnyN_take (i := 2) (v := ?_) rfl (by kernel_rfl) (by kernel_rfl) (by kernel_rfl) (by kernel_rfl) (fun _ _ _ h => h) (Or.inl ⟨by kernel_rfl, ?y3⟩) hHeld ?_
      case y3 =>
        intro w0 hSw
        (try dsimp only at hSw)
        go_simp
        try with_reducible rfl
      try simp only [Act.put, qa8, qb8, qc8, qd8, qe8, qf8]
      refine wpAnyN_take (i := 3) (v := ?_) rfl (by kernel_rfl) (by kernel_rfl) (by kernel_rfl) (by kernel_rfl) (fun _ _ _ h => h) (Or.inl ⟨by kernel_rfl, ?y4⟩) hHeld ?_
      case y4 =>
        intro w0 hSw
        (try dsimp only at hSw)
        go_simp
        try with_reducible rfl
      try simp only [Act.put, qa8, qb8, qc8, qd8, qe8, qf8]
      refine wpAnyN_take (i := 4) (v := ?_) rfl (by kernel_rfl) (by kernel_rfl) (by kernel_rfl) (by kernel_rfl) (fun _ _ _ h => h) (Or.inl ⟨by kernel_rfl, ?y5⟩) hHeld ?_
      case y5 =>
        intro w0 hSw
        (try dsimp only at hSw)
        go_simp
        try with_reducible rfl
      try simp only [Act.put, qa8, qb8, qc8, qd8, qe8, qf8]
      refine wpAnyN_take (i := 5) (v := ?_) rfl (by kernel_rfl) (by kernel_rfl) (by kernel_rfl) (by kernel_rfl) (fun _ _ _ h => h) (Or.inl ⟨by kernel_rfl, ?y6⟩) hHeld ?_
      case y6 =>
        intro w0 hSw
        (try dsimp only at hSw)
        go_simp
        try with_reducible rfl
      try simp only [Act.put, qa8, qb8, qc8, qd8, qe8, qf8]
      refine wpAnyN_take (i := 6) (v := ?_) rfl (by kernel_rfl) (by kernel_rfl) (by kernel_rfl) (by kernel_rfl) (fun _ _ _ h => h) (Or.inl ⟨by kernel_rfl, ?y7⟩) hHeld ?_
      case y7 =>
        intro w0 hSw
        (try dsimp only at hSw)
        go_simp
        try with_reducible rfl
      try simp only [Act.put, qa8, qb8, qc8, qd8, qe8, qf8]
      refine wpAnyN_take (i := 7) (v := ?_) rfl (by kernel_rfl) (by kernel_rfl) (by kernel_rfl) (by kernel_rfl) (fun _ _ _ h => h) (Or.inl ⟨by kernel_rfl, ?y8⟩) hHeld ?_
      case y8 =>
        intro w0 hSw
        (try dsimp only at hSw)
        go_simp
        try with_reducible rfl
      try simp only [Act.put, qa8, qb8, qc8, qd8, qe8, qf8]
      refine wpAnyN_take (i := 8) (v := ?_) rfl (by kernel_rfl) (by kernel_rfl) (by kernel_rfl) (by kernel_rfl) (fun _ _ _ h => h) (Or.inl ⟨by kernel_rfl, ?y9⟩) hHeld ?_
      case y9 =>
        intro w0 hSw
        (try dsimp only at hSw)
        go_simp
        try with_reducible rfl
      try simp only [Act.put, qa8, qb8, qc8, qd8, qe8, qf8]
      refine wpAnyN_take (i := 9) (v := ?_) rfl (by kernel_rfl) (by kernel_rfl) (by kernel_rfl) (by kernel_rfl) (fun _ _ _ h => h) (Or.inl ⟨by kernel_rfl, ?y10⟩) hHeld ?_
      case y10 =>
        intro w0 hSw
        (try dsimp only at hSw)
        go_simp
        try with_reducible rfl
      try simp only [Act.put, qa8, qb8, qc8, qd8, qe8, qf8]
      refine wpAnyN_take (i := 10) (v := ?_) rfl (by kernel_rfl) (by kernel_rfl) (by kernel_rfl) (by kernel_rfl) (fun _ _ _ h => h) (Or.inl ⟨by kernel_rfl, ?y11⟩) hHeld ?_
      case y11 =>
        intro w0 hSw
        (try dsimp only at hSw)
        go_simp
        try with_reducible rfl
      try simp only [Act.put, qa8, qb8, qc8, qd8, qe8, qf8]
      refine wpAnyN_step (i := 11) (by kernel_rfl) rfl (fun K hK => ?_)
      go_simp
      go_at_call 86
      refine (hmk).mono ?_
      rintro en wx ⟨rfl, hbx⟩
      have hHeld := HS.out wx (hbx)
      clear hmk
      go_wp2_with fail
      refine hK.out _ _ (fun _ => hHeld) ?_
      clear hK K
      try simp only [Act.put, qa8, qb8, qc8, qd8, qe8, qf8]
      refine wpAnyN_step (i := 12) (by kernel_rfl) rfl (fun K hK => ?_)
      go_simp
      go_at_call 230
      refine (sameT_one _ _).mono ?_
      rintro en wn ⟨rfl, hwn⟩
      have hwn := hwn.symm
      subst hwn
      go_wp2_with fail
      refine hK.out _ _ (fun _ => hHeld) ?_
      clear hK K
      try simp only [Act.put, qa8, qb8, qc8, qd8, qe8, qf8]
      refine wpAnyN_take (i := 13) (v := ?_) rfl (by kernel_rfl) (by kernel_rfl) (by kernel_rfl) (by kernel_rfl) (fun _ _ _ h => h) (Or.inl ⟨by kernel_rfl, ?y12⟩) hHeld ?_
      case y12 =>
        intro w0 hSw
        (try dsimp only at hSw)
        go_simp
        try with_reducible rfl
      try simp only [Act.put, qa8, qb8, qc8, qd8, qe8, qf8]
      refine wpAnyN_take (i := 14) (v := ?_) rfl (by kernel_rfl) (by kernel_rfl) (by kernel_rfl) (by kernel_rfl) (fun _ _ _ h => h) (Or.inl ⟨by kernel_rfl, ?y13⟩) hHeld ?_
      case y13 =>
        intro w0 hSw
        (try dsimp only at hSw)
        go_simp
        try with_reducible rfl
      try simp only [Act.put, qa8, qb8, qc8, qd8, qe8, qf8]
      refine wpAnyN_take (i := 15) (v := ?_) rfl (by kernel_rfl) (by kernel_rfl) (by kernel_rfl) (by kernel_rfl) (fun _ _ _ h => h) (Or.inl ⟨by kernel_rfl, ?y14⟩) hHeld ?_
      case y14 =>
        intro w0 hSw
        (try dsimp only at hSw)
        go_simp
        try with_reducible rfl
      try simp only [Act.put, qa8, qb8, qc8, qd8, qe8, qf8]
      refine wpAnyN_take (i := 16) (v := ?_) rfl (by kernel_rfl) (by kernel_rfl) (by kernel_rfl) (by kernel_rfl) (fun _ _ _ h => h) (Or.inl ⟨by kernel_rfl, ?y15⟩) hHeld ?_
      case y15 =>
        intro w0 hSw
        (try dsimp only at hSw)
        go_simp
        try with_reducible rfl
      try simp only [Act.put, qa8, qb8, qc8, qd8, qe8, qf8]
      refine wpAnyN_take (i := 17) (v := ?_) rfl (by kernel_rfl) (by kernel_rfl) (by kernel_rfl) (by kernel_rfl) (fun _ _ _ h => h) (Or.inl ⟨by kernel_rfl, ?y16⟩) hHeld ?_
      case y16 =>
        intro w0 hSw
        (try dsimp only at hSw)
        go_simp
        try with_reducible rfl
      try simp only [Act.put, qa8, qb8, qc8, qd8, qe8, qf8]
      refine wpAnyN_take (i := 18) (v := ?_) rfl (by kernel_rfl) (by kernel_rfl) (by kernel_rfl) (by kernel_rfl) (fun _ _ _ h => h) (Or.inl ⟨by kernel_rfl, ?y17⟩) hHeld ?_
      case y17 =>
        intro w0 hSw
        (try dsimp only at hSw)
        go_simp
        try with_reducible rfl
      try simp only [Act.put, qa8, qb8, qc8, qd8, qe8, qf8]
      refine wpAnyN_take (i := 19) (v := ?_) rfl (by kernel_rfl) (by kernel_rfl) (by kernel_rfl) (by kernel_rfl) (fun _ _ _ h => h) (Or.inl ⟨by kernel_rfl, ?y18⟩) hHeld ?_
      case y18 =>
        intro w0 hSw
        (try dsimp only at hSw)
        go_simp
        try with_reducible rfl
      try simp only [Act.put, qa8, qb8, qc8, qd8, qe8, qf8]
      refine wpAnyN_take (i := 20) (v := undef) rfl (by kernel_rfl) (by kernel_rfl) (by kernel_rfl) (by kernel_rfl) (fun _ _ _ h => h) (Or.inr ⟨by kernel_rfl, rfl⟩) hHeld ?_
      try simp only [Act.put, qa8, qb8, qc8, qd8, qe8, qf8]
      refine wpAnyN_take (i := 21) (v := undef) rfl (by kernel_rfl) (by kernel_rfl) (by kernel_rfl) (by kernel_rfl) (fun _ _ _ h => h) (Or.inr ⟨by kernel_rfl, rfl⟩) hHeld ?_
      try simp only [Act.put, qa8, qb8, qc8, qd8, qe8, qf8]
      refine wpAnyN_take (i := 22) (v := undef) rfl (by kernel_rfl) (by kernel_rfl) (by kernel_rfl) (by kernel_rfl) (fun _ _ _ h => h) (Or.inr ⟨by kernel_rfl, rfl⟩) hHeld ?_
      try simp only [Act.put, qa8, qb8, qc8, qd8, qe8, qf8]
      refine wpAnyN_take (i := 23) (v := undef) rfl (by kernel_rfl) (by kernel_rfl) (by kernel_rfl) (by kernel_rfl) (fun _ _ _ h => h) (Or.inr ⟨by kernel_rfl, rfl⟩) hHeld ?_
      try simp only [Act.put, qa8, qb8, qc8, qd8, qe8, qf8]
      refine wpAnyN_take (i := 24) (v := undef) rfl (by kernel_rfl) (by kernel_rfl) (by kernel_rfl) (by kernel_rfl) (fun _ _ _ h => h) (Or.inr ⟨by kernel_rfl, rfl⟩) hHeld ?_
      try simp only [Act.put, qa8, qb8, qc8, qd8, qe8, qf8]
      refine wpAnyN_take (i := 25) (v := undef) rfl (by kernel_rfl) (by kernel_rfl) (by kernel_rfl) (by kernel_rfl) (fun _ _ _ h => h) (Or.inr ⟨by kernel_rfl, rfl⟩) hHeld ?_
      try simp only [Act.put, qa8, qb8, qc8, qd8, qe8, qf8]
      refine wpAnyN_take (i := 26) (v := undef) rfl (by kernel_rfl) (by kernel_rfl) (by kernel_rfl) (by kernel_rfl) (fun _ _ _ h => h) (Or.inr ⟨by kernel_rfl, rfl⟩) hHeld ?_
      try simp only [Act.put, qa8, qb8, qc8, qd8, qe8, qf8]
      refine wpAnyN_take (i := 27) (v := undef) rfl (by kernel_rfl) (by kernel_rfl) (by kernel_rfl) (by kernel_rfl) (fun _ _ _ h => h) (Or.inr ⟨by kernel_rfl, rfl⟩) hHeld ?_
      try simp only [Act.put, qa8, qb8, qc8, qd8, qe8, qf8]
      refine wpAnyN_take (i := 28) (v := undef) rfl (by kernel_rfl) (by kernel_rfl) (by kernel_rfl) (by kernel_rfl) (fun _ _ _ h => h) (Or.inr ⟨by kernel_rfl, rfl⟩) hHeld ?_
      try simp only [Act.put, qa8, qb8, qc8, qd8, qe8, qf8]
      refine wpAnyN_take (i := 29) (v := undef) rfl (by kernel_rfl) (by kernel_rfl) (by kernel_rfl) (by kernel_rfl) (fun _ _ _ h => h) (Or.inr ⟨by kernel_rfl, rfl⟩) hHeld ?_
      try simp only [Act.put, qa8, qb8, qc8, qd8, qe8, qf8]
      refine wpAnyN_take (i := 30) (v := undef) rfl (by kernel_rfl) (by kernel_rfl) (by kernel_rfl) (by kernel_rfl) (fun _ _ _ h => h) (Or.inr ⟨by kernel_rfl, rfl⟩) hHeld ?_
      try simp only [Act.put, qa8, qb8, qc8, qd8, qe8, qf8]
      refine wpAnyN_take (i := 31) (v := ?_) rfl (by kernel_rfl) (by kernel_rfl) (by kernel_rfl) (by kernel_rfl) (fun _ _ _ h => h) (Or.inl ⟨by kernel_rfl, ?y19⟩) hHeld ?_
      case y19 =>
        intro w0 hSw
        (try dsimp only at hSw)
        go_simp
        try with_reducible rfl
      try simp only [Act.put, qa8, qb8, qc8, qd8, qe8, qf8]
      refine wpAnyN_take (i := 32) (v := ?_) rfl (by kernel_rfl) (by kernel_rfl) (by kernel_rfl) (by kernel_rfl) (fun _ _ _ h => h) (Or.inl ⟨by kernel_rfl, ?y20⟩) hHeld ?_
      case y20 =>
        intro w0 hSw
        (try dsimp only at hSw)
        go_simp
        try with_reducible rfl
      try simp only [Act.put, qa8, qb8, qc8, qd8, qe8, qf8]
      refine wpAnyN_take (i := 33) (v := ?_) rfl (by kernel_rfl) (by kernel_rfl) (by kernel_rfl) (by kernel_rfl) (fun _ _ _ h => h) (Or.inl ⟨by kernel_rfl, ?y21⟩) hHeld ?_
      case y21 =>
        intro w0 hSw
        (try dsimp only at hSw)
        go_simp
        try with_reducible rfl
      try simp only [Act.put, qa8, qb8, qc8, qd8, qe8, qf8]
      refine wpAnyN_done (by kernel_rfl) ?_ _
      have hbz := HUP.out _ hbx
      go_wp2
      go_roundw
      case rel => exact ⟨k + 1, by go_num, by omega, by repeat (first | exact hbz | refine below_drewN ?_ _)⟩
      case measure => simpa [intOf] using hmu
    · obtain rfl : k = xs.length := by omega
      obtain ⟨c0, c1, c2, c3, c4⟩ := HC.out wr hbr
      go_wp2
      obtain ⟨w8, h8⟩ : ∃ w8, w8 = wr := ⟨_, rfl⟩
      subst h8
      go_loopw [5] (fun i wr => i = .int .i64 (xs.length : Int) ∧ Below wa.heap.size wa wr) (fun _ _ => 0)
      case atStart => exact ⟨rfl, hbr⟩
      case round =>
        obtain ⟨rfl, hbr⟩ := hrel
        obtain ⟨c0, c1, c2, c3, c4⟩ := HC.out wr hbr
        have hnn : ¬ ((xs.length : Int) < 0) := by omega
        go_wp2
        go_ret
        exact ⟨rfl, box_below (by rw [HWA.out] at hbr; repeat (first | exact hbr | refine below_drewN ?_ _))⟩


set_option maxRecDepth 100000 in
set_option maxHeartbeats 4000000 in
theorem shows_grown {w : World} {A B : Option Addr} {V : Value} {c cg : Nat} {id : Int} {xs gs : List ByteArray} (hL : TxtAt w (.slice A xs.length c) xs) (hG : TxtAt w (.slice B (xs.length + 64) cg) gs) (hgl : gs.length = xs.length + 64) (hxs : ∀ j (hj : j < xs.length), xs[j] = textF id (j : Int)) (hg1 : ∀ j (hj : j < gs.length), j < xs.length → gs[j] = textF id (j : Int)) (hg2 : ∀ j (hj : j < gs.length), xs.length ≤ j → gs[j] = textF (id + 100000) ((j : Int) - (xs.length : Int))) (hn : xs.length ≤ 1048576) (hid : 0 ≤ id ∧ id ≤ 1048576) (hp : Pow w) :
    Calls Tryz.prog 173 #[.agg #[.slice A xs.length c, .slice B (xs.length + 64) cg, V, .int .i64 id, .bool true]] w fun e w' => e = .returned (.bool true) ∧ Below w.heap.size w w' := by
  have HX := Lib.hid hL.at_
  have HG := Lib.hid hG.at_
  have HGL := Lib.hid hgl
  have HP := Lib.hid hp
  have HXS := Lib.hid hxs
  have HG1 := Lib.hid hg1
  have HG2 := Lib.hid hg2
  obtain ⟨ag, rfl, hgb⟩ : ∃ ag, B = some ag ∧ ag.block < w.heap.size := by obtain ⟨ag, e, h, _⟩ := HG.out 0 (by omega); exact ⟨ag, e, h⟩
  clear hL hp hxs hG hgl hg1 hg2
  go_enter Tryz.func173, Tryz.ntmps173
  go_wp2
  obtain ⟨wa, hwa⟩ : ∃ wa, wa = w.alloc (.cells #[.slice A xs.length c, .slice (some ag) (xs.length + 64) cg, V, .int .i64 id, .bool true] 68) := ⟨_, rfl⟩
  have HWA := Lib.hid hwa
  rw [← hwa]
  clear hwa
  have HC := Lib.hid (fun W (hb : Below wa.heap.size wa W) => (show W.cell? ⟨w.heap.size, 0, none⟩ = some (.slice A xs.length c) ∧ W.cell? ⟨w.heap.size, 1, none⟩ = some (.slice (some ag) (xs.length + 64) cg) ∧ W.cell? ⟨w.heap.size, 2, none⟩ = some (V) ∧ W.cell? ⟨w.heap.size, 3, none⟩ = some (.int .i64 id) ∧ W.cell? ⟨w.heap.size, 4, none⟩ = some (.bool true) from by rw [HWA.out] at hb; exact ⟨cell_box 0 hb, cell_box 1 hb, cell_box 2 hb, cell_box 3 hb, cell_box 4 hb⟩))
  go_loopw [4] (fun i wr => ∃ k : Nat, i = .int .i64 (k : Int) ∧ k ≤ xs.length ∧ Below wa.heap.size wa wr) (fun i _ => xs.length - (intOf i).toNat)
  case atStart => exact ⟨0, rfl, Nat.zero_le _, Below.refl _ _⟩
  case round =>
    obtain ⟨k, rfl, hk, hbr⟩ := hrel
    by_cases hlt : k < xs.length
    · obtain ⟨ad, rfl, hl, hc⟩ := HX.out k hlt
      have hmu := meas_up xs.length k hlt
      have hwk := wrap_up k (by omega)
      have HE := Lib.hid (fun W (hb : Below wa.heap.size wa W) => (show W.cell? (ad.add k) = some (.string xs[k]) from by rw [HWA.out] at hb; exact cell_old hc hl hb))
      simp only [HXS.out k hlt] at HE
      obtain ⟨ag', eg, _, hcg⟩ := HG.out k (by have := HGL.out; omega)
      obtain rfl : ag = ag' := Option.some.inj eg
      rw [HG1.out k (by have := HGL.out; omega) hlt] at hcg
      have HE2 := Lib.hid (fun W (hb : Below wa.heap.size wa W) => (show W.cell? (ag.add k) = some (.string (textF id (k : Int))) from by rw [HWA.out] at hb; exact cell_old hcg hgb hb))
      have hgz : (0 : Int) < (xs.length : Int) + 64 := by omega
      have hlt3 : (k : Int) < (xs.length : Int) + 64 := by omega
      have e0 := HE.out wr hbr
      obtain ⟨c0, c1, c2, c3, c4⟩ := HC.out wr hbr
      clear hc hl
      go_wp2
      go_quiet (fail)
      go_wp2
      obtain ⟨wq, hwq⟩ : ∃ wq, wq = wr.drewN nq := ⟨_, rfl⟩
      rw [← hwq]
      have hbq : Below wa.heap.size wa wq := by rw [hwq]; exact below_drewN hbr _
      clear hwq c0 c1 c2 c3 c4 e0 hbr
      have HP2 := Lib.hid (fun W (hb : Below wq.drew.heap.size wq.drew W) => (show Pow W from (HP.out.below (box_below (by rw [← HWA.out]; exact hbq.trans (show Below wa.heap.size wq W from ⟨hb.os, hb.tape, hb.output, hb.size, fun q hq => hb.block q (Nat.lt_of_lt_of_le hq hbq.size)⟩))))))
      have HUP := Lib.hid (fun W (hb : Below wq.drew.heap.size wq.drew W) => (show Below wa.heap.size wa W from hbq.trans ⟨hb.os, hb.tape, hb.output, hb.size, fun q hq => hb.block q (Nat.lt_of_lt_of_le hq hbq.size)⟩))
      have HS := Lib.hid (fun W (hb : Below wq.drew.heap.size wq.drew W) => (show W.cell? ⟨w.heap.size, 0, none⟩ = some (.slice (some ad) xs.length c) ∧ W.cell? ⟨w.heap.size, 1, none⟩ = some (.slice (some ag) (xs.length + 64) cg) ∧ W.cell? ⟨w.heap.size, 3, none⟩ = some (.int .i64 id) ∧ W.cell? ⟨w.heap.size, 4, none⟩ = some (.bool true) ∧ W.cell? (ad.add k) = some (.string (textF id (k : Int))) ∧ W.cell? (ag.add k) = some (.string (textF id (k : Int))) from by
        obtain ⟨c0, c1, c2, c3, c4⟩ := HC.out W (HUP.out W hb)
        exact ⟨c0, c1, c3, c4, HE.out _ (HUP.out W hb), HE2.out _ (HUP.out W hb)⟩))
      have hHeld := HS.out wq.drew (Below.refl _ _)
      have hmk2 := fun W (hb : Below wq.drew.heap.size wq.drew W) => markTexts_any W (HP2.out _ hb) id (k : Int) (and_range hid) (nat_range k (by omega))
      have hmk := markTexts_any wq.drew (HP2.out _ (Below.refl _ _)) id (k : Int) (and_range hid) (nat_range k (by omega))
      refine wp_region_n (n := 34) (S := fun w' => w'.cell? ⟨w.heap.size, 0, none⟩ = some (.slice (some ad) xs.length c) ∧ w'.cell? ⟨w.heap.size, 1, none⟩ = some (.slice (some ag) (xs.length + 64) cg) ∧ w'.cell? ⟨w.heap.size, 3, none⟩ = some (.int .i64 id) ∧ w'.cell? ⟨w.heap.size, 4, none⟩ = some (.bool true) ∧ w'.cell? (ad.add k) = some (.string (textF id (k : Int))) ∧ w'.cell? (ag.add k) = some (.string (textF id (k : Int)))) (by kernel_rfl) ?_
      refine wpAnyN_take (i := 0) (v := ?_) rfl (by kernel_rfl) (by kernel_rfl) (by kernel_rfl) (by kernel_rfl) (fun _ _ _ h => h) (Or.inl ⟨by kernel_rfl, ?y22⟩) hHeld ?_
      case y22 =>
        intro w0 hSw
        (try dsimp only at hSw)
        go_simp
        try with_reducible rfl
      try simp only [Act.put, qa8, qb8, qc8, qd8, qe8, qf8]
      refine wpAnyN_take (i := 1) (v := ?_) rfl (by kernel_rfl) (by kernel_rfl) (by kernel_rfl) (by kernel_rfl) (fun _ _ _ h => h) (Or.inl ⟨by kernel_rfl, ?y23⟩) hHeld ?_
      case y23 =>
        intro w0 hSw
        (try dsimp only at hSw)
        go_simp
        try with_reducible rfl
      try simp only [Act.put, qa8, qb8, qc8, qd8, qe8, qf8]
      refine wpAnyN_take (i := 2) (v := ?_) rfl (by kernel_rfl) (by kernel_rfl) (by kernel_rfl) (by kernel_rfl) (fun _ _ _ h => h) (Or.inl ⟨by kernel_rfl, ?y24⟩) hHeld ?_
      case y24 =>
        intro w0 hSw
        (try dsimp only at hSw)
        go_simp
        try with_reducible rfl
      try simp only [Act.put, qa8, qb8, qc8, qd8, qe8, qf8]
      refine wpAnyN_take (i := 3) (v := ?_) rfl (by kernel_rfl) (by kernel_rfl) (by kernel_rfl) (by kernel_rfl) (fun _ _ _ h => h) (Or.inl ⟨by kernel_rfl, ?y25⟩) hHeld ?_
      case y25 =>
        intro w0 hSw
        (try dsimp only at hSw)
        go_simp
        try with_reducible rfl
      try simp only [Act.put, qa8, qb8, qc8, qd8, qe8, qf8]
      refine wpAnyN_take (i := 4) (v := ?_) rfl (by kernel_rfl) (by kernel_rfl) (by kernel_rfl) (by kernel_rfl) (fun _ _ _ h => h) (Or.inl ⟨by kernel_rfl, ?y26⟩) hHeld ?_
      case y26 =>
        intro w0 hSw
        (try dsimp only at hSw)
        go_simp
        try with_reducible rfl
      try simp only [Act.put, qa8, qb8, qc8, qd8, qe8, qf8]
      refine wpAnyN_take (i := 5) (v := ?_) rfl (by kernel_rfl) (by kernel_rfl) (by kernel_rfl) (by kernel_rfl) (fun _ _ _ h => h) (Or.inl ⟨by kernel_rfl, ?y27⟩) hHeld ?_
      case y27 =>
        intro w0 hSw
        (try dsimp only at hSw)
        go_simp
        try with_reducible rfl
      try simp only [Act.put, qa8, qb8, qc8, qd8, qe8, qf8]
      refine wpAnyN_take (i := 6) (v := ?_) rfl (by kernel_rfl) (by kernel_rfl) (by kernel_rfl) (by kernel_rfl) (fun _ _ _ h => h) (Or.inl ⟨by kernel_rfl, ?y28⟩) hHeld ?_
      case y28 =>
        intro w0 hSw
        (try dsimp only at hSw)
        go_simp
        try with_reducible rfl
      try simp only [Act.put, qa8, qb8, qc8, qd8, qe8, qf8]
      refine wpAnyN_take (i := 7) (v := ?_) rfl (by kernel_rfl) (by kernel_rfl) (by kernel_rfl) (by kernel_rfl) (fun _ _ _ h => h) (Or.inl ⟨by kernel_rfl, ?y29⟩) hHeld ?_
      case y29 =>
        intro w0 hSw
        (try dsimp only at hSw)
        go_simp
        try with_reducible rfl
      try simp only [Act.put, qa8, qb8, qc8, qd8, qe8, qf8]
      refine wpAnyN_take (i := 8) (v := ?_) rfl (by kernel_rfl) (by kernel_rfl) (by kernel_rfl) (by kernel_rfl) (fun _ _ _ h => h) (Or.inl ⟨by kernel_rfl, ?y30⟩) hHeld ?_
      case y30 =>
        intro w0 hSw
        (try dsimp only at hSw)
        go_simp
        try with_reducible rfl
      try simp only [Act.put, qa8, qb8, qc8, qd8, qe8, qf8]
      refine wpAnyN_take (i := 9) (v := ?_) rfl (by kernel_rfl) (by kernel_rfl) (by kernel_rfl) (by kernel_rfl) (fun _ _ _ h => h) (Or.inl ⟨by kernel_rfl, ?y31⟩) hHeld ?_
      case y31 =>
        intro w0 hSw
        (try dsimp only at hSw)
        go_simp
        try with_reducible rfl
      try simp only [Act.put, qa8, qb8, qc8, qd8, qe8, qf8]
      refine wpAnyN_take (i := 10) (v := ?_) rfl (by kernel_rfl) (by kernel_rfl) (by kernel_rfl) (by kernel_rfl) (fun _ _ _ h => h) (Or.inl ⟨by kernel_rfl, ?y32⟩) hHeld ?_
      case y32 =>
        intro w0 hSw
        (try dsimp only at hSw)
        go_simp
        try with_reducible rfl
      try simp only [Act.put, qa8, qb8, qc8, qd8, qe8, qf8]
      refine wpAnyN_step (i := 11) (by kernel_rfl) rfl (fun K hK => ?_)
      go_simp
      go_at_call 86
      refine (hmk).mono ?_
      rintro en wx ⟨rfl, hbx⟩
      have hHeld := HS.out wx (hbx)
      clear hmk
      go_wp2_with fail
      refine hK.out _ _ (fun _ => hHeld) ?_
      clear hK K
      try simp only [Act.put, qa8, qb8, qc8, qd8, qe8, qf8]
      refine wpAnyN_step (i := 12) (by kernel_rfl) rfl (fun K hK => ?_)
      go_simp
      go_at_call 230
      refine (sameT_one _ _).mono ?_
      rintro en wn ⟨rfl, hwn⟩
      have hwn := hwn.symm
      subst hwn
      go_wp2_with fail
      refine hK.out _ _ (fun _ => hHeld) ?_
      clear hK K
      try simp only [Act.put, qa8, qb8, qc8, qd8, qe8, qf8]
      refine wpAnyN_take (i := 13) (v := ?_) rfl (by kernel_rfl) (by kernel_rfl) (by kernel_rfl) (by kernel_rfl) (fun _ _ _ h => h) (Or.inl ⟨by kernel_rfl, ?y33⟩) hHeld ?_
      case y33 =>
        intro w0 hSw
        (try dsimp only at hSw)
        go_simp
        try with_reducible rfl
      try simp only [Act.put, qa8, qb8, qc8, qd8, qe8, qf8]
      refine wpAnyN_take (i := 14) (v := ?_) rfl (by kernel_rfl) (by kernel_rfl) (by kernel_rfl) (by kernel_rfl) (fun _ _ _ h => h) (Or.inl ⟨by kernel_rfl, ?y34⟩) hHeld ?_
      case y34 =>
        intro w0 hSw
        (try dsimp only at hSw)
        go_simp
        try with_reducible rfl
      try simp only [Act.put, qa8, qb8, qc8, qd8, qe8, qf8]
      refine wpAnyN_take (i := 15) (v := ?_) rfl (by kernel_rfl) (by kernel_rfl) (by kernel_rfl) (by kernel_rfl) (fun _ _ _ h => h) (Or.inl ⟨by kernel_rfl, ?y35⟩) hHeld ?_
      case y35 =>
        intro w0 hSw
        (try dsimp only at hSw)
        go_simp
        try with_reducible rfl
      try simp only [Act.put, qa8, qb8, qc8, qd8, qe8, qf8]
      refine wpAnyN_take (i := 16) (v := ?_) rfl (by kernel_rfl) (by kernel_rfl) (by kernel_rfl) (by kernel_rfl) (fun _ _ _ h => h) (Or.inl ⟨by kernel_rfl, ?y36⟩) hHeld ?_
      case y36 =>
        intro w0 hSw
        (try dsimp only at hSw)
        go_simp
        try with_reducible rfl
      try simp only [Act.put, qa8, qb8, qc8, qd8, qe8, qf8]
      refine wpAnyN_take (i := 17) (v := ?_) rfl (by kernel_rfl) (by kernel_rfl) (by kernel_rfl) (by kernel_rfl) (fun _ _ _ h => h) (Or.inl ⟨by kernel_rfl, ?y37⟩) hHeld ?_
      case y37 =>
        intro w0 hSw
        (try dsimp only at hSw)
        go_simp
        try with_reducible rfl
      try simp only [Act.put, qa8, qb8, qc8, qd8, qe8, qf8]
      refine wpAnyN_take (i := 18) (v := ?_) rfl (by kernel_rfl) (by kernel_rfl) (by kernel_rfl) (by kernel_rfl) (fun _ _ _ h => h) (Or.inl ⟨by kernel_rfl, ?y38⟩) hHeld ?_
      case y38 =>
        intro w0 hSw
        (try dsimp only at hSw)
        go_simp
        try with_reducible rfl
      try simp only [Act.put, qa8, qb8, qc8, qd8, qe8, qf8]
      refine wpAnyN_take (i := 19) (v := ?_) rfl (by kernel_rfl) (by kernel_rfl) (by kernel_rfl) (by kernel_rfl) (fun _ _ _ h => h) (Or.inl ⟨by kernel_rfl, ?y39⟩) hHeld ?_
      case y39 =>
        intro w0 hSw
        (try dsimp only at hSw)
        go_simp
        try with_reducible rfl
      try simp only [Act.put, qa8, qb8, qc8, qd8, qe8, qf8]
      refine wpAnyN_take (i := 20) (v := ?_) rfl (by kernel_rfl) (by kernel_rfl) (by kernel_rfl) (by kernel_rfl) (fun _ _ _ h => h) (Or.inl ⟨by kernel_rfl, ?y40⟩) hHeld ?_
      case y40 =>
        intro w0 hSw
        (try dsimp only at hSw)
        go_simp
        try with_reducible rfl
      try simp only [Act.put, qa8, qb8, qc8, qd8, qe8, qf8]
      refine wpAnyN_take (i := 21) (v := ?_) rfl (by kernel_rfl) (by kernel_rfl) (by kernel_rfl) (by kernel_rfl) (fun _ _ _ h => h) (Or.inl ⟨by kernel_rfl, ?y41⟩) hHeld ?_
      case y41 =>
        intro w0 hSw
        (try dsimp only at hSw)
        go_simp
        try with_reducible rfl
      try simp only [Act.put, qa8, qb8, qc8, qd8, qe8, qf8]
      refine wpAnyN_take (i := 22) (v := ?_) rfl (by kernel_rfl) (by kernel_rfl) (by kernel_rfl) (by kernel_rfl) (fun _ _ _ h => h) (Or.inl ⟨by kernel_rfl, ?y42⟩) hHeld ?_
      case y42 =>
        intro w0 hSw
        (try dsimp only at hSw)
        go_simp
        try with_reducible rfl
      try simp only [Act.put, qa8, qb8, qc8, qd8, qe8, qf8]
      refine wpAnyN_take (i := 23) (v := ?_) rfl (by kernel_rfl) (by kernel_rfl) (by kernel_rfl) (by kernel_rfl) (fun _ _ _ h => h) (Or.inl ⟨by kernel_rfl, ?y43⟩) hHeld ?_
      case y43 =>
        intro w0 hSw
        (try dsimp only at hSw)
        go_simp
        try with_reducible rfl
      try simp only [Act.put, qa8, qb8, qc8, qd8, qe8, qf8]
      refine wpAnyN_take (i := 24) (v := ?_) rfl (by kernel_rfl) (by kernel_rfl) (by kernel_rfl) (by kernel_rfl) (fun _ _ _ h => h) (Or.inl ⟨by kernel_rfl, ?y44⟩) hHeld ?_
      case y44 =>
        intro w0 hSw
        (try dsimp only at hSw)
        go_simp
        try with_reducible rfl
      try simp only [Act.put, qa8, qb8, qc8, qd8, qe8, qf8]
      refine wpAnyN_take (i := 25) (v := ?_) rfl (by kernel_rfl) (by kernel_rfl) (by kernel_rfl) (by kernel_rfl) (fun _ _ _ h => h) (Or.inl ⟨by kernel_rfl, ?y45⟩) hHeld ?_
      case y45 =>
        intro w0 hSw
        (try dsimp only at hSw)
        go_simp
        try with_reducible rfl
      try simp only [Act.put, qa8, qb8, qc8, qd8, qe8, qf8]
      refine wpAnyN_take (i := 26) (v := ?_) rfl (by kernel_rfl) (by kernel_rfl) (by kernel_rfl) (by kernel_rfl) (fun _ _ _ h => h) (Or.inl ⟨by kernel_rfl, ?y46⟩) hHeld ?_
      case y46 =>
        intro w0 hSw
        (try dsimp only at hSw)
        go_simp
        try with_reducible rfl
      try simp only [Act.put, qa8, qb8, qc8, qd8, qe8, qf8]
      refine wpAnyN_take (i := 27) (v := ?_) rfl (by kernel_rfl) (by kernel_rfl) (by kernel_rfl) (by kernel_rfl) (fun _ _ _ h => h) (Or.inl ⟨by kernel_rfl, ?y47⟩) hHeld ?_
      case y47 =>
        intro w0 hSw
        (try dsimp only at hSw)
        go_simp
        try with_reducible rfl
      try simp only [Act.put, qa8, qb8, qc8, qd8, qe8, qf8]
      refine wpAnyN_step (i := 28) (by kernel_rfl) rfl (fun K hK => ?_)
      go_simp
      go_at_call 86
      refine (hmk2 wx hbx).mono ?_
      rintro en wy ⟨rfl, hby⟩
      have hHeld := HS.out wy (hbx.trans (hby.mono hbx.size))

      go_wp2_with fail
      refine hK.out _ _ (fun _ => hHeld) ?_
      clear hK K
      try simp only [Act.put, qa8, qb8, qc8, qd8, qe8, qf8]
      refine wpAnyN_step (i := 29) (by kernel_rfl) rfl (fun K hK => ?_)
      go_simp
      go_at_call 230
      refine (sameT_one _ _).mono ?_
      rintro en wn ⟨rfl, hwn⟩
      have hwn := hwn.symm
      subst hwn
      go_wp2_with fail
      refine hK.out _ _ (fun _ => hHeld) ?_
      clear hK K
      try simp only [Act.put, qa8, qb8, qc8, qd8, qe8, qf8]
      refine wpAnyN_take (i := 30) (v := ?_) rfl (by kernel_rfl) (by kernel_rfl) (by kernel_rfl) (by kernel_rfl) (fun _ _ _ h => h) (Or.inl ⟨by kernel_rfl, ?y48⟩) hHeld ?_
      case y48 =>
        intro w0 hSw
        (try dsimp only at hSw)
        go_simp
        try with_reducible rfl
      try simp only [Act.put, qa8, qb8, qc8, qd8, qe8, qf8]
      refine wpAnyN_take (i := 31) (v := ?_) rfl (by kernel_rfl) (by kernel_rfl) (by kernel_rfl) (by kernel_rfl) (fun _ _ _ h => h) (Or.inl ⟨by kernel_rfl, ?y49⟩) hHeld ?_
      case y49 =>
        intro w0 hSw
        (try dsimp only at hSw)
        go_simp
        try with_reducible rfl
      try simp only [Act.put, qa8, qb8, qc8, qd8, qe8, qf8]
      refine wpAnyN_take (i := 32) (v := ?_) rfl (by kernel_rfl) (by kernel_rfl) (by kernel_rfl) (by kernel_rfl) (fun _ _ _ h => h) (Or.inl ⟨by kernel_rfl, ?y50⟩) hHeld ?_
      case y50 =>
        intro w0 hSw
        (try dsimp only at hSw)
        go_simp
        try with_reducible rfl
      try simp only [Act.put, qa8, qb8, qc8, qd8, qe8, qf8]
      refine wpAnyN_take (i := 33) (v := ?_) rfl (by kernel_rfl) (by kernel_rfl) (by kernel_rfl) (by kernel_rfl) (fun _ _ _ h => h) (Or.inl ⟨by kernel_rfl, ?y51⟩) hHeld ?_
      case y51 =>
        intro w0 hSw
        (try dsimp only at hSw)
        go_simp
        try with_reducible rfl
      try simp only [Act.put, qa8, qb8, qc8, qd8, qe8, qf8]
      refine wpAnyN_done (by kernel_rfl) ?_ _
      have hbz := HUP.out _ (hbx.trans (hby.mono hbx.size))
      go_wp2
      go_roundw
      case rel => exact ⟨k + 1, by go_num, by omega, by repeat (first | exact hbz | refine below_drewN ?_ _)⟩
      case measure => simpa [intOf] using hmu
    · obtain rfl : k = xs.length := by omega
      obtain ⟨c0, c1, c2, c3, c4⟩ := HC.out wr hbr
      go_wp2
      obtain ⟨w8, h8⟩ : ∃ w8, w8 = wr := ⟨_, rfl⟩
      subst h8
      go_loopw [5] (fun i wr => ∃ k : Nat, i = .int .i64 (k : Int) ∧ xs.length ≤ k ∧ k ≤ xs.length + 64 ∧ Below wa.heap.size wa wr) (fun i _ => xs.length + 64 - (intOf i).toNat)
      case atStart => exact ⟨xs.length, rfl, Nat.le_refl _, Nat.le_add_right _ _, hbr⟩
      case round =>
        obtain ⟨k, rfl, hk, hk2, hbr⟩ := hrel
        by_cases hlt : k < xs.length + 64
        · obtain ⟨ag', eg, _, hcg⟩ := HG.out k (by have := HGL.out; omega)
          obtain rfl : ag = ag' := Option.some.inj eg
          rw [HG2.out k (by have := HGL.out; omega) hk] at hcg
          have HE2 := Lib.hid (fun W (hb : Below wa.heap.size wa W) => (show W.cell? (ag.add k) = some (.string (textF (id + 100000) ((k : Int) - (xs.length : Int)))) from by rw [HWA.out] at hb; exact cell_old hcg hgb hb))
          have hlt' : (k : Int) < (xs.length : Int) + 64 := by omega
          have hwk := wrap_up k (by omega)
          have hwd := wrap_down xs.length k hk (by omega)
          have hwd' := wrap_down' xs.length k hk (by omega)
          have hmu := meas_up (xs.length + 64) k hlt
          have HP2 := Lib.hid (fun W (hb : Below wr.drew.heap.size wr.drew W) => (show Pow W from (HP.out.below (box_below (by rw [← HWA.out]; exact hbr.trans (show Below wa.heap.size wr W from ⟨hb.os, hb.tape, hb.output, hb.size, fun q hq => hb.block q (Nat.lt_of_lt_of_le hq hbr.size)⟩))))))
          have HUP := Lib.hid (fun W (hb : Below wr.drew.heap.size wr.drew W) => (show Below wa.heap.size wa W from hbr.trans ⟨hb.os, hb.tape, hb.output, hb.size, fun q hq => hb.block q (Nat.lt_of_lt_of_le hq hbr.size)⟩))
          have HS := Lib.hid (fun W (hb : Below wr.drew.heap.size wr.drew W) => (show W.cell? ⟨w.heap.size, 1, none⟩ = some (.slice (some ag) (xs.length + 64) cg) ∧ W.cell? ⟨w.heap.size, 3, none⟩ = some (.int .i64 id) ∧ W.cell? (ag.add k) = some (.string (textF (id + 100000) ((k : Int) - (xs.length : Int)))) from by
            obtain ⟨c0, c1, c2, c3, c4⟩ := HC.out W (HUP.out W hb)
            exact ⟨c1, c3, HE2.out _ (HUP.out W hb)⟩))
          have hHeld := HS.out wr.drew (Below.refl _ _)
          have hbh := behind_any wr.drew id hid
          have hmk := markTexts_any wr.drew (HP2.out _ (Below.refl _ _)) (id + 100000) ((k : Int) - (xs.length : Int)) (and_range2 hid) (sub_range xs.length k hk (by omega))
          obtain ⟨c0, c1, c2, c3, c4⟩ := HC.out wr hbr
          clear hcg
          go_wp2
          clear c0 c1 c2 c3 c4
          refine wp_region_n (n := 14) (S := fun w' => w'.cell? ⟨w.heap.size, 1, none⟩ = some (.slice (some ag) (xs.length + 64) cg) ∧ w'.cell? ⟨w.heap.size, 3, none⟩ = some (.int .i64 id) ∧ w'.cell? (ag.add k) = some (.string (textF (id + 100000) ((k : Int) - (xs.length : Int))))) (by kernel_rfl) ?_
          refine wpAnyN_take (i := 0) (v := ?_) rfl (by kernel_rfl) (by kernel_rfl) (by kernel_rfl) (by kernel_rfl) (fun _ _ _ h => h) (Or.inl ⟨by kernel_rfl, ?y52⟩) hHeld ?_
          case y52 =>
            intro w0 hSw
            (try dsimp only at hSw)
            go_simp
            try with_reducible rfl
          try simp only [Act.put, qa8, qb8, qc8, qd8, qe8, qf8]
          refine wpAnyN_take (i := 1) (v := ?_) rfl (by kernel_rfl) (by kernel_rfl) (by kernel_rfl) (by kernel_rfl) (fun _ _ _ h => h) (Or.inl ⟨by kernel_rfl, ?y53⟩) hHeld ?_
          case y53 =>
            intro w0 hSw
            (try dsimp only at hSw)
            go_simp
            try with_reducible rfl
          try simp only [Act.put, qa8, qb8, qc8, qd8, qe8, qf8]
          refine wpAnyN_take (i := 2) (v := ?_) rfl (by kernel_rfl) (by kernel_rfl) (by kernel_rfl) (by kernel_rfl) (fun _ _ _ h => h) (Or.inl ⟨by kernel_rfl, ?y54⟩) hHeld ?_
          case y54 =>
            intro w0 hSw
            (try dsimp only at hSw)
            go_simp
            try with_reducible rfl
          try simp only [Act.put, qa8, qb8, qc8, qd8, qe8, qf8]
          refine wpAnyN_take (i := 3) (v := ?_) rfl (by kernel_rfl) (by kernel_rfl) (by kernel_rfl) (by kernel_rfl) (fun _ _ _ h => h) (Or.inl ⟨by kernel_rfl, ?y55⟩) hHeld ?_
          case y55 =>
            intro w0 hSw
            (try dsimp only at hSw)
            go_simp
            try with_reducible rfl
          try simp only [Act.put, qa8, qb8, qc8, qd8, qe8, qf8]
          refine wpAnyN_take (i := 4) (v := ?_) rfl (by kernel_rfl) (by kernel_rfl) (by kernel_rfl) (by kernel_rfl) (fun _ _ _ h => h) (Or.inl ⟨by kernel_rfl, ?y56⟩) hHeld ?_
          case y56 =>
            intro w0 hSw
            (try dsimp only at hSw)
            go_simp
            try with_reducible rfl
          try simp only [Act.put, qa8, qb8, qc8, qd8, qe8, qf8]
          refine wpAnyN_take (i := 5) (v := ?_) rfl (by kernel_rfl) (by kernel_rfl) (by kernel_rfl) (by kernel_rfl) (fun _ _ _ h => h) (Or.inl ⟨by kernel_rfl, ?y57⟩) hHeld ?_
          case y57 =>
            intro w0 hSw
            (try dsimp only at hSw)
            go_simp
            try with_reducible rfl
          try simp only [Act.put, qa8, qb8, qc8, qd8, qe8, qf8]
          refine wpAnyN_take (i := 6) (v := ?_) rfl (by kernel_rfl) (by kernel_rfl) (by kernel_rfl) (by kernel_rfl) (fun _ _ _ h => h) (Or.inl ⟨by kernel_rfl, ?y58⟩) hHeld ?_
          case y58 =>
            intro w0 hSw
            (try dsimp only at hSw)
            go_simp
            try with_reducible rfl
          try simp only [Act.put, qa8, qb8, qc8, qd8, qe8, qf8]
          refine wpAnyN_take (i := 8) (v := ?_) rfl (by kernel_rfl) (by kernel_rfl) (by kernel_rfl) (by kernel_rfl) (fun _ _ _ h => h) (Or.inl ⟨by kernel_rfl, ?y59⟩) hHeld ?_
          case y59 =>
            intro w0 hSw
            (try dsimp only at hSw)
            go_simp
            try with_reducible rfl
          try simp only [Act.put, qa8, qb8, qc8, qd8, qe8, qf8]
          refine wpAnyN_take (i := 9) (v := ?_) rfl (by kernel_rfl) (by kernel_rfl) (by kernel_rfl) (by kernel_rfl) (fun _ _ _ h => h) (Or.inl ⟨by kernel_rfl, ?y60⟩) hHeld ?_
          case y60 =>
            intro w0 hSw
            (try dsimp only at hSw)
            go_simp
            try with_reducible rfl
          try simp only [Act.put, qa8, qb8, qc8, qd8, qe8, qf8]
          refine wpAnyN_take (i := 10) (v := ?_) rfl (by kernel_rfl) (by kernel_rfl) (by kernel_rfl) (by kernel_rfl) (fun _ _ _ h => h) (Or.inl ⟨by kernel_rfl, ?y61⟩) hHeld ?_
          case y61 =>
            intro w0 hSw
            (try dsimp only at hSw)
            go_simp
            try with_reducible rfl
          try simp only [Act.put, qa8, qb8, qc8, qd8, qe8, qf8]
          refine wpAnyN_step (i := 7) (by kernel_rfl) rfl (fun K hK => ?_)
          go_simp
          go_at_call 87
          refine (hbh).mono ?_
          rintro en wn ⟨rfl, hwn⟩
          have hwn := hwn.symm
          subst hwn
          clear hbh
          go_wp2_with fail
          refine hK.out _ _ (fun _ => hHeld) ?_
          clear hK K
          try simp only [Act.put, qa8, qb8, qc8, qd8, qe8, qf8]
          refine wpAnyN_step (i := 11) (by kernel_rfl) rfl (fun K hK => ?_)
          go_simp
          go_at_call 86
          refine (hmk).mono ?_
          rintro en wx ⟨rfl, hbx⟩
          have hHeld := HS.out wx (hbx)
          clear hmk
          go_wp2_with fail
          refine hK.out _ _ (fun _ => hHeld) ?_
          clear hK K
          try simp only [Act.put, qa8, qb8, qc8, qd8, qe8, qf8]
          refine wpAnyN_step (i := 12) (by kernel_rfl) rfl (fun K hK => ?_)
          go_simp
          go_at_call 230
          refine (sameT_one _ _).mono ?_
          rintro en wn ⟨rfl, hwn⟩
          have hwn := hwn.symm
          subst hwn
          go_wp2_with fail
          refine hK.out _ _ (fun _ => hHeld) ?_
          clear hK K
          try simp only [Act.put, qa8, qb8, qc8, qd8, qe8, qf8]
          refine wpAnyN_take (i := 13) (v := ?_) rfl (by kernel_rfl) (by kernel_rfl) (by kernel_rfl) (by kernel_rfl) (fun _ _ _ h => h) (Or.inl ⟨by kernel_rfl, ?y62⟩) hHeld ?_
          case y62 =>
            intro w0 hSw
            (try dsimp only at hSw)
            go_simp
            try with_reducible rfl
          try simp only [Act.put, qa8, qb8, qc8, qd8, qe8, qf8]
          refine wpAnyN_done (by kernel_rfl) ?_ _
          have hbz := HUP.out _ hbx
          go_wp2
          go_roundw
          case rel => exact ⟨k + 1, by go_num, by omega, by omega, by repeat (first | exact hbz | refine below_drewN ?_ _)⟩
          case measure => simpa [intOf] using hmu
        · obtain rfl : k = xs.length + 64 := by omega
          obtain ⟨c0, c1, c2, c3, c4⟩ := HC.out wr hbr
          go_wp2
          go_ret
          exact ⟨rfl, box_below (by rw [HWA.out] at hbr; repeat (first | exact hbr | refine below_drewN ?_ _))⟩

end Go.Proofs.YtplocldnklccfaaGreatDoor
namespace Go.Proofs.YtplocldnklccfaaGreatDoor
open Go.RowKit
set_option linter.unusedVariables false
set_option linter.unusedSimpArgs false

def encT (x : ByteArray) : List Value := [.string x]
theorem encT_len (x : ByteArray) : (encT x).length = 1 := rfl
theorem flatT (xs : List ByteArray) : (xs.map encT).flatten = xs.map Value.string := by
  induction xs with
  | nil => rfl
  | cons x xs ih => simp [encT, ih]
abbrev PageT (w : World) (p : Pg ByteArray) : Prop := PageAt textF w p.F 9 1 encT p.v p.L p.G p.W
abbrev PagesT (w : World) (Tv : Value) (ps : List (Pg ByteArray)) : Prop := PagesAt textF w 9 1 encT 68 Tv ps
theorem add_none (ad : Addr) (j : Nat) : (ad.add j).add 0 = ad.add j := rfl
theorem TxtAt.of_row {w : World} {R : Nat → Prop} {v : Value} {xs : List ByteArray} (h : RowAt w R 1 v (xs.map encT)) : TxtAt w v xs := by
  obtain ⟨A, c, hv, hx⟩ := h
  rw [List.length_map] at hv
  refine ⟨A, c, hv, fun j hj => ?_⟩
  obtain ⟨ad, e1, h1, _, h2⟩ := hx j (by simpa using hj)
  refine ⟨ad, e1, h1, ?_⟩
  have := h2 0 (.string xs[j]) (by rw [List.getElem_map]; rfl)
  rw [Nat.mul_one, add_none] at this
  exact this
theorem TxtAt.to_row {w : World} {R : Nat → Prop} {v : Value} {xs : List ByteArray} (h : TxtAt w v xs) (hR : ∀ q, v.ownBlock = some q → R q) : RowAt w R 1 v (xs.map encT) := by
  obtain ⟨A, c, hv, hx⟩ := h
  refine ⟨A, c, by rw [List.length_map]; exact hv, fun j hj => ?_⟩
  obtain ⟨ad, e1, h1, h2⟩ := hx j (by simpa using hj)
  refine ⟨ad, e1, h1, hR _ (by rw [hv, e1]; rfl), fun i u hu => ?_⟩
  rw [List.getElem_map] at hu
  match i, hu with
  | 0, hu =>
    obtain rfl := Option.some.inj hu
    rw [Nat.mul_one, add_none]
    exact h2
theorem cur_get {p : PageV ByteArray} (h : p.done = true) : ∀ j (hj : j < (curL textF p).length), (curL textF p)[j] = textF p.id (j : Int) := by
  unfold curL
  rw [if_pos h]
  exact fun j hj => marksL_get _ _ _ _ hj
theorem shows_any {w : World} {p : Pg ByteArray} (h : PageT w p) (hid : 0 ≤ p.v.id ∧ p.v.id ≤ 1048576) (hp : Pow w) :
    Calls Tryz.prog 173 #[.agg #[p.L, p.G, p.W, .int .i64 p.v.id, .bool p.v.done]] w fun e w' => e = .returned (.bool true) ∧ Below w.heap.size w w' := by
  obtain ⟨A, c, hL⟩ := h.form
  have hcl := curL_len textF p.v
  have hsm := h.small
  have hLx : p.L = .slice A (curL textF p.v).length c := by rw [hcl]; exact hL
  have hLT : TxtAt w (.slice A (curL textF p.v).length c) (curL textF p.v) := by
    rw [← hLx]
    exact TxtAt.of_row (h.reads encT_len)
  cases hd : p.v.done with
  | false =>
    obtain ⟨hg, hW, _⟩ := h.keep hd
    have hG := (h.own hg).2
    have hc : curL textF p.v = p.v.was := by unfold curL; rw [hd]; rfl
    rw [hc] at hLx hLT
    rw [flatT] at hW
    obtain ⟨B, d, hWv⟩ := own_form hW
    rw [hWv] at hW
    rw [hLx, hG, hWv]
    exact shows_kept hLT (TxtAt.own hW) hsm
  | true =>
    cases hg : p.v.grown with
    | false =>
      have hG := (h.own hg).2
      rw [hLx, hG]
      exact shows_filled hLT (cur_get hd) (by omega) hid hp
    | true =>
      have hgo := (h.gro hg).2.1
      rw [flatT] at hgo
      obtain ⟨B, d, hGv⟩ := own_form hgo
      have hgl := groL_len textF p.v
      rw [← hgl] at hgo
      have hGT := TxtAt.own hgo
      rw [hGv, ← hcl] at hGT
      rw [hLx, hGv, ← hcl]
      refine shows_grown hLT hGT (by omega) (cur_get hd) (fun j hj hlt => ?_) (fun j hj hle => ?_) (by omega) hid hp
      · exact (List.getElem_append_left hlt).trans (cur_get hd j hlt)
      · refine (List.getElem_append_right hle).trans ?_
        rw [marksL_get, Int.ofNat_sub hle]

/-- A book: its lists of texts. -/
structure BookT (w : World) (kb : Nat) (bc : Array Value) (Tv : Value) (ps : List (Pg ByteArray)) : Prop where
  blk : w.heap[kb]? = some (.cells bc 49 (0, 0))
  c4 : bc[4]? = some Tv
  pages : PagesT w Tv ps
  out : ∀ j (h : j < ps.length) q, ps[j].F q → q ≠ kb ∧ q ≠ 3
  tout : ∀ q, Tv.ownBlock = some q → q ≠ kb ∧ q ≠ 3
  pow : Pow w
  ids : ∀ j (h : j < ps.length), 0 ≤ ps[j].v.id ∧ ps[j].v.id ≤ 1048576
  len : ps.length ≤ 96
def BookF (Tv : Value) (ps : List (Pg ByteArray)) (q : Nat) : Prop := Tv.ownBlock = some q ∨ ∃ j, ∃ h : j < ps.length, ps[j].F q
theorem BookT.below {w w' : World} {kb : Nat} {bc : Array Value} {Tv : Value} {ps : List (Pg ByteArray)} (h : BookT w kb bc Tv ps) (hb : Below w.heap.size w w') : BookT w' kb bc Tv ps where
  blk := (hb.block kb (heap_lt h.blk)).trans h.blk
  c4 := h.c4
  pages := h.pages.below hb
  out := h.out
  tout := h.tout
  pow := h.pow.below hb
  ids := h.ids
  len := h.len
theorem BookT.turn {w w' : World} {kb : Nat} {bc : Array Value} {Tv : Value} {ps : List (Pg ByteArray)} {D : Nat → Prop} {tb cap : Nat} {cs : Array Value} (h : BookT w kb bc Tv ps) (k : Nat) (hk : k < ps.length) (hT : Tv = .slice (some ⟨tb, 0, none⟩) ps.length cap)
    (hcs : w.heap[tb]? = some (.cells cs 68 (0, 0))) (i : Nat) (hi : i < 5) (u : Value) (hcs' : w'.heap[tb]? = some (.cells (cs.setIfInBounds (k * 5 + i) u) 68 (0, 0))) (hc : Ch (fun q => q = tb ∨ D q) w w') (hD : ∀ q, D q → ps[k].F q) (p' : Pg ByteArray)
    (hp' : p'.cells = ps[k].cells.set i u) (hpg : PageT w' p') (hF : ∀ q, p'.F q → (ps[k].F q ∨ w.heap.size ≤ q) ∧ q < w'.heap.size) (hid : p'.v.id = ps[k].v.id) : BookT w' kb bc Tv (ps.set k p') := by
  have htb := h.tout tb (by rw [hT]; rfl)
  have hkl := heap_lt h.blk
  have hpl := h.pow.lt
  have get : ∀ j (hj : j < (ps.set k p').length), (ps.set k p')[j] = p' ∨ ∃ hj' : j < ps.length, (ps.set k p')[j] = ps[j] := fun j hj => by
    by_cases e : j = k
    · exact .inl (by subst e; simp)
    · exact .inr ⟨by simpa using hj, by rw [List.getElem_set_ne (Ne.symm e)]⟩
  refine ⟨(hc.block kb hkl ?_).trans h.blk, h.c4, h.pages.set k hk hT hcs i hi u hcs' hc hD p' hp' hpg hF, ?_, h.tout, h.pow.ch hc ?_, ?_, by rw [List.length_set]; exact h.len⟩
  · rintro (e | hd)
    · exact htb.1 e.symm
    · exact (h.out k hk kb (hD kb hd)).1 rfl
  · intro j hj q hq
    rcases get j hj with e | ⟨hj', e⟩
    · rw [e] at hq
      rcases (hF q hq).1 with h1 | h1
      · exact h.out k hk q h1
      · exact ⟨by omega, by omega⟩
    · rw [e] at hq
      exact h.out j hj' q hq
  · rintro q (rfl | hd)
    · exact htb.2
    · exact (h.out k hk q (hD q hd)).2
  · intro j hj
    rcases get j hj with e | ⟨hj', e⟩
    · rw [e, hid]
      exact h.ids k hk
    · rw [e]
      exact h.ids j hj'
end Go.Proofs.YtplocldnklccfaaGreatDoor
namespace Go.Proofs.YtplocldnklccfaaGreatDoor
open Go.RowKit
set_option linter.unusedVariables false
set_option linter.unusedSimpArgs false

def markA (id k : Int) : Acct := ⟨textF id k, -k - 1, 0, false⟩
set_option maxRecDepth 100000 in
theorem markAcc_any (w : World) (hp : Pow w) (id k : Int) (h1 : 0 ≤ id ∧ id ≤ 4194304) (h2 : 0 ≤ k ∧ k ≤ 4194304) :
    Calls Tryz.prog 196 #[.int .i64 id, .int .i64 k] w fun e w' => e = .returned (accV (markA id k)) ∧ Below w.heap.size w w' := by
  have ht := fun W (hb : Below w.heap.size w W) => text_any W (hp.below hb) id k ⟨by omega, by omega⟩ ⟨by omega, by omega⟩
  have HT := Lib.hid ht
  have e1 : IntKind.i64.wrap (-k) = -k := IntWalk.i64_in _ (by omega)
  have e2 : IntKind.i64.wrap (-k - 1) = -k - 1 := IntWalk.i64_in _ (by omega)
  have e3 : wrap64 (-k - 1) = -k - 1 := by unfold wrap64; omega
  clear ht hp
  go_enter Tryz.func196, Tryz.ntmps196
  go_wp2_with (go_at_call 169; refine (HT.out _ (bel1 w (.cells #[.string ⟨#[]⟩, .int .i64 0, .int .i64 0, .bool false] 159))).mono ?_; rintro e w1 ⟨rfl, hb1⟩; have hk0 := (hb1.block _ (by simp)).trans (World.alloc_heap_new w (.cells #[.string ⟨#[]⟩, .int .i64 0, .int .i64 0, .bool false] 159)); have c0 : w1.cell? ⟨w.heap.size, 0, none⟩ = some (.string ⟨#[]⟩) := (cell_of_blk (i := 0) hk0).trans rfl; have c1 : w1.cell? ⟨w.heap.size, 1, none⟩ = some (.int .i64 0) := (cell_of_blk (i := 1) hk0).trans rfl; have c2 : w1.cell? ⟨w.heap.size, 2, none⟩ = some (.int .i64 0) := (cell_of_blk (i := 2) hk0).trans rfl; have c3 : w1.cell? ⟨w.heap.size, 3, none⟩ = some (.bool false) := (cell_of_blk (i := 3) hk0).trans rfl; have f0 := frozen_blk hk0 0; have f1 := frozen_blk hk0 1; have f2 := frozen_blk hk0 2; have f3 := frozen_blk hk0 3; have HB := Lib.hid ((bel1 w _).trans (hb1.mono (by simp))); clear hb1 hk0)
  refine bodyPost_ret (v := accV (markA id k)) (by simp [results, Tryz.results196, go_sem, accV, markA, c0, c1, c2, c3]) rfl ⟨rfl, ?_⟩
  exact (((HB.out.setCell (Nat.le_refl _) _).setCell (Nat.le_refl _) _).setCell (Nat.le_refl _) _).setCell (Nat.le_refl _) _
set_option maxRecDepth 100000 in
theorem sameAcc_any (w : World) (a : Acct) : Calls Tryz.prog 212 #[accV a, accV a] w fun e w' => e = .returned (.bool true) ∧ Below w.heap.size w w' := by
  unfold accV
  go_enter Tryz.func212, Tryz.ntmps212
  go_wp2
  go_ret
  exact ⟨by simp, ((Below.refl _ _).alloc (Nat.le_refl _) _).alloc (by simp) _⟩
end Go.Proofs.YtplocldnklccfaaGreatDoor
namespace Go.Proofs.YtplocldnklccfaaGreatDoor
open Go.RowKit
set_option linter.unusedVariables false
set_option linter.unusedSimpArgs false

def accsM (id : Int) (n : Nat) : List (List Value) := (marksL markA id n).map encA
theorem accsM_succ (id : Int) (n : Nat) : accsM id (n + 1) = accsM id n ++ [encA (markA id n)] := by unfold accsM; rw [marksL_succ, List.map_append]; rfl
theorem accsM_len (id : Int) (n : Nat) : (accsM id n).length = n := by unfold accsM; rw [List.length_map, marksL_len]
theorem accsM_4 (id : Int) (n : Nat) : ∀ x ∈ accsM id n, x.length = 4 := fun x hx => by
  obtain ⟨y, _, rfl⟩ := List.mem_map.1 hx
  rfl
theorem accsM_set (id : Int) (k : Nat) (xs : List (List Value)) (h : k < xs.length) : (accsM id k ++ xs.drop k).set k (encA (markA id k)) = accsM id (k + 1) ++ xs.drop (k + 1) := by
  rw [accsM_succ, List.set_append, if_neg (by rw [accsM_len]; omega), accsM_len, Nat.sub_self, List.drop_eq_getElem_cons h, List.set_cons_zero, List.append_assoc]
  rfl
theorem flat_set4 (xs : List (List Value)) (h4 : ∀ x ∈ xs, x.length = 4) (k : Nat) (hk : k < xs.length) (b : Acct) :
    (((xs.flatten.set (k * 4) (.string b.name)).set (k * 4 + 1) (.int .i64 b.typ)).set (k * 4 + 2) (.int .i64 b.opened)).set (k * 4 + 3) (.bool b.closed) = (xs.set k (encA b)).flatten := by
  obtain ⟨v0, v1, v2, v3, hv⟩ : ∃ v0 v1 v2 v3, xs[k] = [v0, v1, v2, v3] := by
    have := h4 xs[k] (List.getElem_mem hk)
    match hx : xs[k], this with
    | [v0, v1, v2, v3], _ => exact ⟨v0, v1, v2, v3, rfl⟩
  have mem4 : ∀ (ys : List (List Value)) (y : List Value), (∀ x ∈ ys, x.length = 4) → y.length = 4 → ∀ x ∈ ys.set k y, x.length = 4 := fun ys y hy hl x hx => by
    rcases List.mem_or_eq_of_mem_set hx with h | h
    · exact hy x h
    · rw [h]; exact hl
  have s0 := flat_set (s := 4) (.string b.name) xs h4 k hk 0 (by decide)
  rw [Nat.add_zero, hv] at s0
  rw [s0]
  have m0 := mem4 xs [.string b.name, v1, v2, v3] h4 rfl
  have s1 := flat_set (s := 4) (.int .i64 b.typ) (xs.set k [.string b.name, v1, v2, v3]) m0 k (by simpa using hk) 1 (by decide)
  simp only [List.getElem_set_self, List.set_cons_zero, List.set_cons_succ, List.set_set] at s1 ⊢
  rw [s1]
  have m1 := mem4 xs [.string b.name, .int .i64 b.typ, v2, v3] h4 rfl
  have s2 := flat_set (s := 4) (.int .i64 b.opened) (xs.set k [.string b.name, .int .i64 b.typ, v2, v3]) m1 k (by simpa using hk) 2 (by decide)
  simp only [List.getElem_set_self, List.set_cons_zero, List.set_cons_succ, List.set_set] at s2
  rw [s2]
  have m2 := mem4 xs [.string b.name, .int .i64 b.typ, .int .i64 b.opened, v3] h4 rfl
  have s3 := flat_set (s := 4) (.bool b.closed) (xs.set k [.string b.name, .int .i64 b.typ, .int .i64 b.opened, v3]) m2 k (by simpa using hk) 3 (by decide)
  simp only [List.getElem_set_self, List.set_cons_zero, List.set_cons_succ, List.set_set] at s3
  rw [s3]
  rfl
/-- A world where four cells have been written. -/
abbrev set4 (w : World) (lb k : Nat) (b : Acct) : World := (((w.setCell ⟨lb, k * 4, none⟩ (.string b.name)).setCell ⟨lb, k * 4 + 1, none⟩ (.int .i64 b.typ)).setCell ⟨lb, k * 4 + 2, none⟩ (.int .i64 b.opened)).setCell ⟨lb, k * 4 + 3, none⟩ (.bool b.closed)
theorem set4_other (w : World) (lb k : Nat) (b : Acct) (q : Nat) (h : q ≠ lb) : (set4 w lb k b).heap[q]? = w.heap[q]? :=
  (Below.heap_setCell _ _ _ _ h).trans ((Below.heap_setCell _ _ _ _ h).trans ((Below.heap_setCell _ _ _ _ h).trans (Below.heap_setCell _ _ _ _ h)))
theorem set4_own {w : World} {B e n : Nat} {v : Value} {xs : List (List Value)} (h : w.ownsRow B e 4 v n xs.flatten) {g : Nat} (hg : v.ownBlock = some g) (h4 : ∀ x ∈ xs, x.length = 4) (k : Nat) (hk : k < xs.length) (b : Acct) : (set4 w g k b).ownsRow B e 4 v n (xs.set k (encA b)).flatten := by
  have := own_set (own_set (own_set (own_set h hg (k * 4) (.string b.name)) hg (k * 4 + 1) (.int .i64 b.typ)) hg (k * 4 + 2) (.int .i64 b.opened)) hg (k * 4 + 3) (.bool b.closed)
  rwa [flat_set4 xs h4 k hk b] at this
theorem set4_ch {F : Nat → Prop} {a w : World} (h : Ch F a w) {lb : Nat} (hp : F lb) (k : Nat) (b : Acct) : Ch F a (set4 w lb k b) :=
  (((h.setCell (p := ⟨lb, k * 4, none⟩) (.inl hp) _).setCell (p := ⟨lb, k * 4 + 1, none⟩) (.inl hp) _).setCell (p := ⟨lb, k * 4 + 2, none⟩) (.inl hp) _).setCell (p := ⟨lb, k * 4 + 3, none⟩) (.inl hp) _
/-- The four cells of a row's element are there and may be written. -/
theorem row_cells4 {w : World} {B e n : Nat} {v : Value} {xs : List (List Value)} (h : w.ownsRow B e 4 v n xs.flatten) {g : Nat} (hg : v.ownBlock = some g) (h4 : ∀ x ∈ xs, x.length = 4) (k : Nat) (hk : k < xs.length) (hn : xs.length = n) :
    ∃ v0 v1 v2 v3, w.cell? ⟨g, k * 4, none⟩ = some v0 ∧ w.cell? ⟨g, k * 4 + 1, none⟩ = some v1 ∧ w.cell? ⟨g, k * 4 + 2, none⟩ = some v2 ∧ w.cell? ⟨g, k * 4 + 3, none⟩ = some v3 := by
  have hl : xs.flatten.length = n * 4 := by rw [flat_len xs h4, hn]
  have hc : ∀ i, i < 4 → ∃ u, w.cell? ⟨g, k * 4 + i, none⟩ = some u := fun i hi => by
    have hlt : k * 4 + i < xs.flatten.length := by omega
    exact ⟨xs.flatten[k * 4 + i], by rw [own_get h hg (k * 4 + i) (by omega), List.getElem?_eq_getElem hlt]⟩
  obtain ⟨v0, h0⟩ := hc 0 (by decide)
  obtain ⟨v1, h1⟩ := hc 1 (by decide)
  obtain ⟨v2, h2⟩ := hc 2 (by decide)
  obtain ⟨v3, h3⟩ := hc 3 (by decide)
  exact ⟨v0, v1, v2, v3, by simpa using h0, h1, h2, h3⟩

structure FillInvA (w : World) (pb : Nat) (cs : Array Value) (pt : TypeId) (L : Value) (n : Nat) (id : Int) (xs : List (List Value)) (i : Value) (wr : World) (k : Nat) : Prop where
  le : k ≤ n
  at_ : i = .int .i64 (k : Int)
  page : wr.heap[pb]? = some (.cells cs pt (0, 0))
  own : wr.ownsRow 0 159 4 L n (accsM id k ++ xs.drop k).flatten
  ch : Ch (fun q => L.ownBlock = some q) w wr
set_option maxRecDepth 100000 in
set_option maxHeartbeats 4000000 in
theorem fillA_any {w : World} {pb po n c : Nat} {cs : Array Value} {pt : TypeId} {A : Option Addr} {id : Int} {d : Bool} {xs : List (List Value)} (hp : w.heap[pb]? = some (.cells cs pt (0, 0)))
    (h0 : cs[po]? = some (.slice A n c)) (h3 : cs[po + 3]? = some (.int .i64 id)) (h4 : cs[po + 4]? = some (.bool d)) (hxl : xs.length = n) (hx4 : ∀ x ∈ xs, x.length = 4) (hown : w.ownsRow 0 159 4 (.slice A n c) n xs.flatten)
    (hne : ∀ q, (Value.slice A n c).ownBlock = some q → q ≠ pb) (hn : n ≤ 1048576) (hid : 0 ≤ id ∧ id ≤ 1048576) (hpow : ∀ W, Ch (fun q => (Value.slice A n c).ownBlock = some q) w W → Pow W) :
    Calls Tryz.prog 114 #[.pointer (some ⟨pb, po, none⟩)] w fun e w' => e = .returned (.tuple #[]) ∧ w'.heap[pb]? = some (.cells (cs.setIfInBounds (po + 4) (.bool true)) pt (0, 0)) ∧
      w'.ownsRow 0 159 4 (.slice A n c) n (accsM id n).flatten ∧ Ch (fun q => q = pb ∨ (Value.slice A n c).ownBlock = some q) w w' := by
  have HXL := Lib.hid (And.intro hxl hx4)
  have HC := Lib.hid (And.intro h0 (And.intro h3 h4))
  have HN := Lib.hid hne
  have HPOW := Lib.hid hpow
  have HI := Lib.hid (show FillInvA w pb cs pt (.slice A n c) n id xs (.int .i64 0) w 0 from ⟨Nat.zero_le _, rfl, hp, by simpa [accsM, marksL] using hown, Ch.refl _ _⟩)
  have hblk := heap_lt hp
  clear hp h0 h3 h4 hown hne hpow hxl hx4
  go_enter Tryz.func114, Tryz.ntmps114
  go_wp2
  go_loopw [2] (fun i wr => ∃ k : Nat, FillInvA w pb cs pt (.slice A n c) n id xs i wr k) (fun i _ => n - (intOf i).toNat)
  case atStart => exact ⟨0, HI.out⟩
  case round =>
    obtain ⟨k, hk, rfl, hpg, hrow, hch⟩ := hrel
    have hcell : ∀ W : World, W.heap[pb]? = wr.heap[pb]? → W.cell? ⟨pb, po, none⟩ = some (.slice A n c) ∧ W.cell? ⟨pb, po + 3, none⟩ = some (.int .i64 id) ∧ W.cell? ⟨pb, po + 4, none⟩ = some (.bool d) := fun W hW => by
      rw [cell_of_blk (hW.trans hpg), cell_of_blk (hW.trans hpg), cell_of_blk (hW.trans hpg)]
      exact ⟨HC.out.1, HC.out.2.1, HC.out.2.2⟩
    have HCELL := Lib.hid hcell
    have HPG := Lib.hid hpg
    have HCH := Lib.hid hch
    obtain ⟨p0, _, p4⟩ := hcell wr rfl
    by_cases hlt : k < n
    · have hA : ∃ lb, A = some ⟨lb, 0, none⟩ := by
        rcases hrow.2 with ⟨hv, h0⟩ | ⟨g, cap, cur, hv, _⟩
        · omega
        · injection hv with e1 _ _; exact ⟨g, e1⟩
      obtain ⟨lb, rfl⟩ := hA
      have hll := (hrow.lt lb rfl).2
      have hlp : lb ≠ pb := HN.out lb rfl
      have hblr : pb < wr.heap.size := heap_lt hpg
      have HOWN := Lib.hid (fun W (hb : Below wr.drew.heap.size wr.drew W) => ownsRow_keep (w' := W) hrow fun q e => hb.block q (hrow.lt q e).2)
      have HS := Lib.hid (fun W (hb : Below wr.drew.heap.size wr.drew W) => (show W.cell? ⟨pb, po, none⟩ = some (.slice (some ⟨lb, 0, none⟩) n c) ∧ W.cell? ⟨pb, po + 3, none⟩ = some (.int .i64 id) from ⟨(HCELL.out W (hb.block pb hblr)).1, (HCELL.out W (hb.block pb hblr)).2.1⟩))
      have HST := Lib.hid (fun W (hb : Below wr.drew.heap.size wr.drew W) => (show ((set4 W lb k (markA id k)).cell? ⟨pb, po, none⟩ = some (.slice (some ⟨lb, 0, none⟩) n c) ∧ (set4 W lb k (markA id k)).cell? ⟨pb, po + 3, none⟩ = some (.int .i64 id)) from ⟨(HCELL.out _ ((set4_other W lb k (markA id k) pb (Ne.symm hlp)).trans (hb.block pb hblr))).1, (HCELL.out _ ((set4_other W lb k (markA id k) pb (Ne.symm hlp)).trans (hb.block pb hblr))).2.1⟩))
      have hmk := markAcc_any wr.drew (HPOW.out wr.drew hch.drew) id (k : Int) ⟨by omega, by omega⟩ ⟨by omega, by omega⟩
      have HM4 : Hid ((∀ x ∈ accsM id k ++ xs.drop k, x.length = 4) ∧ (accsM id k ++ xs.drop k).length = n) := Lib.hid ⟨fun x hx => by
        rcases List.mem_append.1 hx with h | h
        · exact accsM_4 id k x h
        · exact HXL.out.2 x (List.mem_of_mem_drop h), by have := HXL.out.1; simp [accsM_len]; omega⟩
      have hHeld := HS.out wr.drew (Below.refl _ _)
      have hmu : n - ((k : Int) + 1).toNat < n - k := by omega
      have hwk : wrap64 ((k : Int) + 1) = (k : Int) + 1 := by unfold wrap64; omega
      unfold accV at hmk
      clear hrow hcell hch hpg p4
      go_wp2
      clear p0
      refine wp_region_n (n := 13) (S := fun w' => w'.cell? ⟨pb, po, none⟩ = some (.slice (some ⟨lb, 0, none⟩) n c) ∧ w'.cell? ⟨pb, po + 3, none⟩ = some (.int .i64 id)) (by kernel_rfl) ?_
      refine wpAnyN_take (i := 0) (v := ?_) rfl (by kernel_rfl) (by kernel_rfl) (by kernel_rfl) (by kernel_rfl) (fun _ _ _ h => h) (Or.inl ⟨by kernel_rfl, ?y1⟩) hHeld ?_
      case y1 =>
        intro w0 hSw
        (try dsimp only at hSw)
        go_simp
        try with_reducible rfl
      try simp only [Act.put, qa8, qb8, qc8, qd8, qe8, qf8]
      refine wpAnyN_take (i := 1) (v := ?_) rfl (by kernel_rfl) (by kernel_rfl) (by kernel_rfl) (by kernel_rfl) (fun _ _ _ h => h) (Or.inl ⟨by kernel_rfl, ?y2⟩) hHeld ?_
      case y2 =>
        intro w0 hSw
        (try dsimp only at hSw)
        go_simp
        try with_reducible rfl
      try simp only [Act.put, qa8, qb8, qc8, qd8, qe8, qf8]
      refine wpAnyN_take (i := 2) (v := ?_) rfl (by kernel_rfl) (by kernel_rfl) (by kernel_rfl) (by kernel_rfl) (fun _ _ _ h => h) (Or.inl ⟨by kernel_rfl, ?y3⟩) hHeld ?_
      case y3 =>
        intro w0 hSw
        (try dsimp only at hSw)
        go_simp
        try with_reducible rfl
      try simp only [Act.put, qa8, qb8, qc8, qd8, qe8, qf8]
      refine wpAnyN_take (i := 3) (v := ?_) rfl (by kernel_rfl) (by kernel_rfl) (by kernel_rfl) (by kernel_rfl) (fun _ _ _ h => h) (Or.inl ⟨by kernel_rfl, ?y4⟩) hHeld ?_
      case y4 =>
        intro w0 hSw
        (try dsimp only at hSw)
        go_simp
        try with_reducible rfl
      try simp only [Act.put, qa8, qb8, qc8, qd8, qe8, qf8]
      refine wpAnyN_take (i := 4) (v := ?_) rfl (by kernel_rfl) (by kernel_rfl) (by kernel_rfl) (by kernel_rfl) (fun _ _ _ h => h) (Or.inl ⟨by kernel_rfl, ?y5⟩) hHeld ?_
      case y5 =>
        intro w0 hSw
        (try dsimp only at hSw)
        go_simp
        try with_reducible rfl
      try simp only [Act.put, qa8, qb8, qc8, qd8, qe8, qf8]
      refine wpAnyN_take (i := 5) (v := ?_) rfl (by kernel_rfl) (by kernel_rfl) (by kernel_rfl) (by kernel_rfl) (fun _ _ _ h => h) (Or.inl ⟨by kernel_rfl, ?y6⟩) hHeld ?_
      case y6 =>
        intro w0 hSw
        (try dsimp only at hSw)
        go_simp
        try with_reducible rfl
      try simp only [Act.put, qa8, qb8, qc8, qd8, qe8, qf8]
      refine wpAnyN_take (i := 6) (v := ?_) rfl (by kernel_rfl) (by kernel_rfl) (by kernel_rfl) (by kernel_rfl) (fun _ _ _ h => h) (Or.inl ⟨by kernel_rfl, ?y7⟩) hHeld ?_
      case y7 =>
        intro w0 hSw
        (try dsimp only at hSw)
        go_simp
        try with_reducible rfl
      try simp only [Act.put, qa8, qb8, qc8, qd8, qe8, qf8]
      refine wpAnyN_take (i := 7) (v := ?_) rfl (by kernel_rfl) (by kernel_rfl) (by kernel_rfl) (by kernel_rfl) (fun _ _ _ h => h) (Or.inl ⟨by kernel_rfl, ?y8⟩) hHeld ?_
      case y8 =>
        intro w0 hSw
        (try dsimp only at hSw)
        go_simp
        try with_reducible rfl
      try simp only [Act.put, qa8, qb8, qc8, qd8, qe8, qf8]
      refine wpAnyN_take (i := 8) (v := ?_) rfl (by kernel_rfl) (by kernel_rfl) (by kernel_rfl) (by kernel_rfl) (fun _ _ _ h => h) (Or.inl ⟨by kernel_rfl, ?y9⟩) hHeld ?_
      case y9 =>
        intro w0 hSw
        (try dsimp only at hSw)
        go_simp
        try with_reducible rfl
      try simp only [Act.put, qa8, qb8, qc8, qd8, qe8, qf8]
      refine wpAnyN_take (i := 9) (v := ?_) rfl (by kernel_rfl) (by kernel_rfl) (by kernel_rfl) (by kernel_rfl) (fun _ _ _ h => h) (Or.inl ⟨by kernel_rfl, ?y10⟩) hHeld ?_
      case y10 =>
        intro w0 hSw
        (try dsimp only at hSw)
        go_simp
        try with_reducible rfl
      try simp only [Act.put, qa8, qb8, qc8, qd8, qe8, qf8]
      refine wpAnyN_step (i := 10) (by kernel_rfl) rfl (fun K hK => ?_)
      go_simp
      go_at_call 196
      refine (hmk).mono ?_
      rintro en wx ⟨rfl, hbx⟩
      have hHeld := HS.out wx hbx
      clear hmk
      go_wp2_with fail
      refine hK.out _ _ (fun _ => hHeld) ?_
      clear hK K
      try simp only [Act.put, qa8, qb8, qc8, qd8, qe8, qf8]
      refine wpAnyN_take (i := 11) (v := ?_) rfl (by kernel_rfl) (by kernel_rfl) (by kernel_rfl) (by kernel_rfl) (fun _ _ _ h => h) (Or.inl ⟨by kernel_rfl, ?y11⟩) hHeld ?_
      case y11 =>
        intro w0 hSw
        (try dsimp only at hSw)
        go_simp
        try with_reducible rfl
      try simp only [Act.put, qa8, qb8, qc8, qd8, qe8, qf8]
      refine wpAnyN_step (i := 12) (by kernel_rfl) rfl (fun K hK => ?_)
      obtain ⟨v0, v1, v2, v3, q0, q1, q2, q3⟩ := row_cells4 (HOWN.out wx hbx) (g := lb) rfl HM4.out.1 k (by rw [HM4.out.2]; omega) HM4.out.2
      have f0 := own_froz (HOWN.out wx hbx) (g := lb) rfl (k * 4)
      have f1 := own_froz (HOWN.out wx hbx) (g := lb) rfl (k * 4 + 1)
      have f2 := own_froz (HOWN.out wx hbx) (g := lb) rfl (k * 4 + 2)
      have f3 := own_froz (HOWN.out wx hbx) (g := lb) rfl (k * 4 + 3)
      go_simp
      refine hK.out _ _ (fun _ => HST.out wx hbx) ?_
      clear hK K
      try simp only [Act.put, qa8, qb8, qc8, qd8, qe8, qf8]
      refine wpAnyN_done (by kernel_rfl) ?_ _
      have hfin := set4_own (HOWN.out wx hbx) (g := lb) rfl HM4.out.1 k (by rw [HM4.out.2]; omega) (markA id k)
      rw [accsM_set id k xs (by have := HXL.out.1; omega)] at hfin
      have hfp := (set4_other wx lb k (markA id k) pb (Ne.symm hlp)).trans ((hbx.block pb hblr).trans HPG.out)
      have hfc := set4_ch ((HCH.out.drew).below hbx) (lb := lb) rfl k (markA id k)
      have HF := Lib.hid (And.intro hfp (And.intro hfin hfc))
      clear hfin hfp hfc q0 q1 q2 q3 f0 f1 f2 f3 hHeld
      go_wp2
      go_roundw
      case rel => exact ⟨k + 1, Nat.succ_le_of_lt hlt, by go_num, HF.out.1, HF.out.2.1, HF.out.2.2⟩
      case measure => simpa [intOf] using hmu
    · obtain rfl : k = n := by omega
      have f4 := frozen_blk hpg (po + 4)
      have hd : xs.drop k = [] := List.drop_of_length_le (by have := HXL.out.1; omega)
      rw [hd, List.append_nil] at hrow
      have hfin := ownsRow_keep (w' := wr.setCell ⟨pb, po + 4, none⟩ (.bool true)) hrow fun q e => Below.heap_setCell _ _ _ _ (HN.out q e)
      have hfp := heap_setCell_same (i := po + 4) hpg (.bool true)
      have hfc := (hch.mono (G := fun q => q = pb ∨ (Value.slice A k c).ownBlock = some q) fun q h => .inr h).setCell (p := ⟨pb, po + 4, none⟩) (.inl (.inl rfl)) (.bool true)
      have HF := Lib.hid (And.intro hfp (And.intro hfin hfc))
      clear hfin hfp hfc hrow hpg hch hcell hd
      go_wp2
      go_end0
      exact ⟨rfl, HF.out.1, HF.out.2.1, HF.out.2.2⟩
end Go.Proofs.YtplocldnklccfaaGreatDoor
