/- event.Check. Printed by gen_evcheck.py; Contracts of the money package: Add, Sum; Rows of accounts; what From needs to know of lists; The sorting of accounts by their names. -/
import Derived.Test.YtgocoofcelggcaaGreatDoorPack5
import Derived.Deep.RegionHeld3
import Derived.Test.YtgocoofcelggcaaGreatDoorPack1
import Derived.Test.YtgocoofcelggcaaGreatDoorPack4
import Derived.Laws.Externs
import Derived.Laws.Cover1
import Derived.IntWalk
import Derived.BigQuiet
import Derived.Deep.QuietTactic
import Derived.Test.YtgocoofcelggcaaGreatDoorSortLay
import Derived.Test.YtgocoofcelggcaaGreatDoorPack2
namespace Go.Proofs.YtgocoofcelggcaaGreatDoor
theorem qa6 {T : Type} (l : List T) (i : Nat) (a : T) : l.toArray.setIfInBounds i a = (l.set i a).toArray := List.setIfInBounds_toArray l i a
theorem qb6 {T : Type} {x : T} {xs : List T} {a : T} : (x :: xs).set 0 a = a :: xs := List.set_cons_zero
theorem qc6 {T : Type} {x : T} {xs : List T} {i : Nat} {a : T} : (x :: xs).set (i + 1) a = x :: xs.set i a := List.set_cons_succ
theorem qd6 {T : Type} {xs : List T} {i : Nat} (h : i < xs.toArray.size) : xs.toArray[i] = xs[i]'(by simpa using h) := List.getElem_toArray h
theorem qe6 {T : Type} (a : T) (ys : List T) (i : Nat) (h : i + 1 < (a :: ys).length) : (a :: ys)[i + 1] = ys[i]'(by simpa using h) := List.getElem_cons_succ a ys i h
theorem qf6 {T : Type} (a : T) (ys : List T) (h : 0 < (a :: ys).length) : (a :: ys)[0] = a := List.getElem_cons_zero a ys h
open Go.RowKit
set_option linter.unusedVariables false
set_option linter.unusedSimpArgs false

/-- What an event holds that its kind has. -/
def joinV (e : EventV) : EventV :=
  if e.kind = 1 then ⟨1, e.day, ⟨#[]⟩, e.account, ⟨#[]⟩, ⟨#[]⟩, ⟨#[]⟩, e.typ, 0, 0, ⟨#[]⟩, []⟩
  else if e.kind = 2 then ⟨2, e.day, ⟨#[]⟩, e.account, ⟨#[]⟩, ⟨#[]⟩, ⟨#[]⟩, 0, 0, 0, ⟨#[]⟩, []⟩
  else if e.kind = 3 then ⟨3, e.day, e.key, ⟨#[]⟩, ⟨#[]⟩, ⟨#[]⟩, ⟨#[]⟩, 0, 0, 0, e.memo, e.lines⟩
  else if e.kind = 4 then ⟨4, e.day, e.key, ⟨#[]⟩, ⟨#[]⟩, e.ref, ⟨#[]⟩, 0, 0, 0, e.memo, []⟩
  else if e.kind = 5 then ⟨5, e.day, e.key, e.account, e.other, ⟨#[]⟩, ⟨#[]⟩, 0, e.due, e.amount, e.memo, []⟩
  else if e.kind = 6 then ⟨6, e.day, e.key, e.account, e.other, ⟨#[]⟩, ⟨#[]⟩, 0, 0, e.amount, e.memo, []⟩
  else if e.kind = 7 then ⟨7, e.day, e.key, ⟨#[]⟩, ⟨#[]⟩, e.ref, e.ref2, 0, 0, e.amount, ⟨#[]⟩, []⟩
  else if e.kind = 8 then ⟨8, e.day, ⟨#[]⟩, ⟨#[]⟩, ⟨#[]⟩, ⟨#[]⟩, ⟨#[]⟩, 0, 0, 0, ⟨#[]⟩, []⟩
  else e

structure SmallEv (e : EventV) : Prop where
  key : e.key.size ≤ 1048576
  account : e.account.size ≤ 1048576
  other : e.other.size ≤ 1048576
  ref : e.ref.size ≤ 1048576
  ref2 : e.ref2.size ≤ 1048576
  memo : e.memo.size ≤ 1048576
  count : e.lines.length ≤ 1048576
  lines : ∀ x ∈ e.lines, x.account.size ≤ 1048576 ∧ x.tag.size ≤ 1048576

theorem nil_beq (s : ByteArray) : ((⟨#[]⟩ : ByteArray).toList == s.toList) = nilB s := by
  rw [ByteArray.toList_eq, ByteArray.toList_eq]
  unfold nilB
  cases s.data.toList <;> rfl
theorem self_beq (s : ByteArray) : (s.toList == s.toList) = true := by simp
theorem zero_beq (a : Int) : ((0 : Int) == a) = (a == 0) := by
  rw [Bool.eq_iff_iff]; simp; omega
theorem zero_len (n : Nat) : decide (0 = n) = (n == 0) := by
  cases n <;> simp

theorem join_same (e : EventV) (h : fieldsB e = true) : sameE (joinV e) e (joinV e).lines.length e.lines.length = ownB e := by
  unfold joinV ownB bareB
  by_cases h1 : e.kind = 1
  · simp only [if_pos h1]
    unfold sameE
    simp only [h1, nil_beq, self_beq, zero_beq, beq_self_eq_true, Bool.true_and, Bool.and_true, Bool.true_or, Bool.false_or, List.length_nil, zero_len, decide_true]
    try (cases nilB e.key <;> cases nilB e.account <;> cases nilB e.other <;> cases nilB e.ref <;> cases nilB e.ref2 <;> cases (e.typ == 0) <;> cases (e.due == 0) <;> cases (e.amount == 0) <;> cases nilB e.memo <;> cases (e.lines.length == 0) <;> rfl)
  simp only [if_neg h1]
  by_cases h2 : e.kind = 2
  · simp only [if_pos h2]
    unfold sameE
    simp only [h2, nil_beq, self_beq, zero_beq, beq_self_eq_true, Bool.true_and, Bool.and_true, Bool.true_or, Bool.false_or, List.length_nil, zero_len, decide_true]
    try (cases nilB e.key <;> cases nilB e.account <;> cases nilB e.other <;> cases nilB e.ref <;> cases nilB e.ref2 <;> cases (e.typ == 0) <;> cases (e.due == 0) <;> cases (e.amount == 0) <;> cases nilB e.memo <;> cases (e.lines.length == 0) <;> rfl)
  simp only [if_neg h2]
  by_cases h3 : e.kind = 3
  · simp only [if_pos h3]
    unfold sameE
    simp only [h3, nil_beq, self_beq, zero_beq, beq_self_eq_true, Bool.true_and, Bool.and_true, Bool.true_or, Bool.false_or, List.length_nil, zero_len, decide_true]
    try (cases nilB e.key <;> cases nilB e.account <;> cases nilB e.other <;> cases nilB e.ref <;> cases nilB e.ref2 <;> cases (e.typ == 0) <;> cases (e.due == 0) <;> cases (e.amount == 0) <;> cases nilB e.memo <;> cases (e.lines.length == 0) <;> rfl)
  simp only [if_neg h3]
  by_cases h4 : e.kind = 4
  · simp only [if_pos h4]
    unfold sameE
    simp only [h4, nil_beq, self_beq, zero_beq, beq_self_eq_true, Bool.true_and, Bool.and_true, Bool.true_or, Bool.false_or, List.length_nil, zero_len, decide_true]
    try (cases nilB e.key <;> cases nilB e.account <;> cases nilB e.other <;> cases nilB e.ref <;> cases nilB e.ref2 <;> cases (e.typ == 0) <;> cases (e.due == 0) <;> cases (e.amount == 0) <;> cases nilB e.memo <;> cases (e.lines.length == 0) <;> rfl)
  simp only [if_neg h4]
  by_cases h5 : e.kind = 5
  · simp only [if_pos h5]
    unfold sameE
    simp only [h5, nil_beq, self_beq, zero_beq, beq_self_eq_true, Bool.true_and, Bool.and_true, Bool.true_or, Bool.false_or, List.length_nil, zero_len, decide_true]
    try (cases nilB e.key <;> cases nilB e.account <;> cases nilB e.other <;> cases nilB e.ref <;> cases nilB e.ref2 <;> cases (e.typ == 0) <;> cases (e.due == 0) <;> cases (e.amount == 0) <;> cases nilB e.memo <;> cases (e.lines.length == 0) <;> rfl)
  simp only [if_neg h5]
  by_cases h6 : e.kind = 6
  · simp only [if_pos h6]
    unfold sameE
    simp only [h6, nil_beq, self_beq, zero_beq, beq_self_eq_true, Bool.true_and, Bool.and_true, Bool.true_or, Bool.false_or, List.length_nil, zero_len, decide_true]
    try (cases nilB e.key <;> cases nilB e.account <;> cases nilB e.other <;> cases nilB e.ref <;> cases nilB e.ref2 <;> cases (e.typ == 0) <;> cases (e.due == 0) <;> cases (e.amount == 0) <;> cases nilB e.memo <;> cases (e.lines.length == 0) <;> rfl)
  simp only [if_neg h6]
  by_cases h7 : e.kind = 7
  · simp only [if_pos h7]
    unfold sameE
    simp only [h7, nil_beq, self_beq, zero_beq, beq_self_eq_true, Bool.true_and, Bool.and_true, Bool.true_or, Bool.false_or, List.length_nil, zero_len, decide_true]
    try (cases nilB e.key <;> cases nilB e.account <;> cases nilB e.other <;> cases nilB e.ref <;> cases nilB e.ref2 <;> cases (e.typ == 0) <;> cases (e.due == 0) <;> cases (e.amount == 0) <;> cases nilB e.memo <;> cases (e.lines.length == 0) <;> rfl)
  simp only [if_neg h7]
  by_cases h8 : e.kind = 8
  · simp only [if_pos h8]
    unfold sameE
    simp only [h8, nil_beq, self_beq, zero_beq, beq_self_eq_true, Bool.true_and, Bool.and_true, Bool.true_or, Bool.false_or, List.length_nil, zero_len, decide_true]
    try (cases nilB e.key <;> cases nilB e.account <;> cases nilB e.other <;> cases nilB e.ref <;> cases nilB e.ref2 <;> cases (e.typ == 0) <;> cases (e.due == 0) <;> cases (e.amount == 0) <;> cases nilB e.memo <;> cases (e.lines.length == 0) <;> rfl)
  simp only [if_neg h8]
  exfalso
  unfold fieldsB at h
  simp only [if_neg h1, if_neg h2, if_neg h3, if_neg h4, if_neg h5, if_neg h6, if_neg h7] at h
  exact h8 (of_decide_eq_true h)

theorem good_any (R : Nat → Prop) (e : EventV) (A : Option Addr) (c : Nat) (w : World) (hz : SmallEv e) (hL : LinesAt w R (.slice A e.lines.length c) e.lines) :
    Calls Tryz.prog 53 #[.int .i64 e.day, contV e (.slice A e.lines.length c)] w fun en w' => en = .returned (.bool (fieldsB e)) ∧ Below w.heap.size w w' := by
  unfold contV fieldsB
  by_cases h1 : e.kind = 1
  · simp only [if_pos h1]
    exact good1 _ _ _ _ hz.account
  simp only [if_neg h1]
  by_cases h2 : e.kind = 2
  · simp only [if_pos h2]
    exact good2 e.day e.key e.account e.other e.ref e.ref2 e.typ e.due e.amount e.memo w hz.account
  simp only [if_neg h2]
  by_cases h3 : e.kind = 3
  · simp only [if_pos h3]
    exact good3 _ _ _ R _ _ _ _ _ hz.key hz.memo hz.count hL hz.lines
  simp only [if_neg h3]
  by_cases h4 : e.kind = 4
  · simp only [if_pos h4]
    exact good4 e.day e.key e.account e.other e.ref e.ref2 e.typ e.due e.amount e.memo w hz.key hz.memo hz.ref
  simp only [if_neg h4]
  by_cases h5 : e.kind = 5
  · simp only [if_pos h5]
    exact good5 e.day e.key e.account e.other e.ref e.ref2 e.typ e.due e.amount e.memo w hz.account hz.key hz.memo hz.other
  simp only [if_neg h5]
  by_cases h6 : e.kind = 6
  · simp only [if_pos h6]
    exact good6 e.day e.key e.account e.other e.ref e.ref2 e.typ e.due e.amount e.memo w hz.account hz.key hz.memo hz.other
  simp only [if_neg h6]
  by_cases h7 : e.kind = 7
  · simp only [if_pos h7]
    exact good7 e.day e.key e.account e.other e.ref e.ref2 e.typ e.due e.amount e.memo w hz.key hz.ref hz.ref2
  simp only [if_neg h7]
  by_cases h8 : e.kind = 8
  · simp only [if_pos h8]
    rw [decide_eq_true h8]
    exact good8 _ _
  simp only [if_neg h8]
  rw [decide_eq_false h8]
  exact good0 _ _

theorem join_any (e : EventV) (A : Option Addr) (n c : Nat) (w : World) (h : fieldsB e = true) :
    Calls Tryz.prog 55 #[.int .i64 e.day, contV e (.slice A n c)] w fun en w' => en = .returned (evV (joinV e) (if e.kind = 3 then .slice A n c else .slice none 0 0)) ∧ Below w.heap.size w w' := by
  unfold contV joinV
  by_cases h1 : e.kind = 1
  · simp only [if_pos h1]
    have := join1 e.day e.key e.account e.other e.ref e.ref2 e.typ e.due e.amount e.memo A n c w
    try simp only [h1]
    exact this
  simp only [if_neg h1]
  by_cases h2 : e.kind = 2
  · simp only [if_pos h2]
    have := join2 e.day e.key e.account e.other e.ref e.ref2 e.typ e.due e.amount e.memo A n c w
    try simp only [h2]
    exact this
  simp only [if_neg h2]
  by_cases h3 : e.kind = 3
  · simp only [if_pos h3]
    have := join3 e.day e.key e.account e.other e.ref e.ref2 e.typ e.due e.amount e.memo A n c w
    try simp only [h3]
    exact this
  simp only [if_neg h3]
  by_cases h4 : e.kind = 4
  · simp only [if_pos h4]
    have := join4 e.day e.key e.account e.other e.ref e.ref2 e.typ e.due e.amount e.memo A n c w
    try simp only [h4]
    exact this
  simp only [if_neg h4]
  by_cases h5 : e.kind = 5
  · simp only [if_pos h5]
    have := join5 e.day e.key e.account e.other e.ref e.ref2 e.typ e.due e.amount e.memo A n c w
    try simp only [h5]
    exact this
  simp only [if_neg h5]
  by_cases h6 : e.kind = 6
  · simp only [if_pos h6]
    have := join6 e.day e.key e.account e.other e.ref e.ref2 e.typ e.due e.amount e.memo A n c w
    try simp only [h6]
    exact this
  simp only [if_neg h6]
  by_cases h7 : e.kind = 7
  · simp only [if_pos h7]
    have := join7 e.day e.key e.account e.other e.ref e.ref2 e.typ e.due e.amount e.memo A n c w
    try simp only [h7]
    exact this
  simp only [if_neg h7]
  by_cases h8 : e.kind = 8
  · simp only [if_pos h8]
    have := join8 e.day e.key e.account e.other e.ref e.ref2 e.typ e.due e.amount e.memo A n c w
    try simp only [h8]
    exact this
  simp only [if_neg h8]
  exfalso
  unfold fieldsB at h
  simp only [if_neg h1, if_neg h2, if_neg h3, if_neg h4, if_neg h5, if_neg h6, if_neg h7] at h
  exact h8 (of_decide_eq_true h)
theorem join_len (e : EventV) (h : e.kind ≠ 3) (hf : fieldsB e = true) : (joinV e).lines.length = 0 := by
  unfold joinV
  by_cases h1 : e.kind = 1
  · simp only [if_pos h1]
    first | rfl | exact absurd h1 h
  simp only [if_neg h1]
  by_cases h2 : e.kind = 2
  · simp only [if_pos h2]
    first | rfl | exact absurd h2 h
  simp only [if_neg h2]
  by_cases h3 : e.kind = 3
  · simp only [if_pos h3]
    first | rfl | exact absurd h3 h
  simp only [if_neg h3]
  by_cases h4 : e.kind = 4
  · simp only [if_pos h4]
    first | rfl | exact absurd h4 h
  simp only [if_neg h4]
  by_cases h5 : e.kind = 5
  · simp only [if_pos h5]
    first | rfl | exact absurd h5 h
  simp only [if_neg h5]
  by_cases h6 : e.kind = 6
  · simp only [if_pos h6]
    first | rfl | exact absurd h6 h
  simp only [if_neg h6]
  by_cases h7 : e.kind = 7
  · simp only [if_pos h7]
    first | rfl | exact absurd h7 h
  simp only [if_neg h7]
  by_cases h8 : e.kind = 8
  · simp only [if_pos h8]
    first | rfl | exact absurd h8 h
  simp only [if_neg h8]
  exfalso
  unfold fieldsB at hf
  simp only [if_neg h1, if_neg h2, if_neg h3, if_neg h4, if_neg h5, if_neg h6, if_neg h7] at hf
  exact h8 (of_decide_eq_true hf)
theorem join_three (e : EventV) (h : e.kind = 3) : (joinV e).lines = e.lines := by
  unfold joinV
  simp only [h]
  simp

/-- The event's own block. -/
def evCs (e : EventV) (lv : Value) : Array Value := #[.int .i64 e.kind, .int .i64 e.day, .string e.key, .string e.account, .string e.other, .string e.ref, .string e.ref2, .int .i64 e.typ, .int .i64 e.due, .int .i64 e.amount, .string e.memo, lv]

set_option maxRecDepth 100000 in
set_option maxHeartbeats 8000000 in
theorem Check_ev (R : Nat → Prop) (e : EventV) (A : Option Addr) (c : Nat) (w : World) (hz : SmallEv e) (hL : LinesAt w R (.slice A e.lines.length c) e.lines) :
    Calls Tryz.prog 38 #[evV e (.slice A e.lines.length c)] w fun en w' => en = .returned (.int .i64 (if evB e = true then 0 else 50)) ∧ Below w.heap.size w w' := by
  have hsp := fun W => split_any e A e.lines.length c W
  have hd := isDay_ev e.day
  have hgood : ∀ w1, Below w.heap.size w w1 → ∀ W, Below w1.heap.size w1 W → Calls Tryz.prog 53 #[.int .i64 e.day, contV e (.slice A e.lines.length c)] W fun en w' => en = .returned (.bool (fieldsB e)) ∧ Below W.heap.size W w' := fun w1 h1 W h2 => good_any R e A c W hz ((hL.below h1).below h2)
  have hjoin := fun (hf : fieldsB e = true) W => join_any e A e.lines.length c W hf
  obtain ⟨lv', hlv⟩ : ∃ lv', lv' = (if e.kind = 3 then Value.slice A e.lines.length c else .slice none 0 0) := ⟨_, rfl⟩
  have hsame : fieldsB e = true → ∀ W, Calls Tryz.prog 54 #[evV (joinV e) lv', evV e (.slice A e.lines.length c)] W fun en w' => en = .returned (.bool (ownB e)) ∧ Below W.heap.size W w' := fun hf W => by
    rw [← join_same e hf, hlv]
    by_cases h3 : e.kind = 3
    · rw [if_pos h3, join_three e h3]
      exact same_ev _ _ _ _ _ _ _ _ _
    · rw [if_neg h3, join_len e h3 hf]
      exact same_ev _ _ _ _ _ _ _ _ _
  rw [← hlv] at hjoin
  clear hlv
  have HGD := Lib.hid hgood
  have HJ := Lib.hid hjoin
  have HSM := Lib.hid hsame
  obtain ⟨RV, hRV⟩ : ∃ RV : Int, RV = (if evB e = true then 0 else 50) := ⟨_, rfl⟩
  rw [← hRV]
  have HRV := Lib.hid hRV
  clear hgood hjoin hsame hRV hL
  generalize hcv : contV e (.slice A e.lines.length c) = cv at *
  clear hcv
  unfold evV at hsp ⊢
  go_enter Tryz.func38, Tryz.ntmps38
  go_wp2_with (go_at_call 51; refine (hsp _).mono ?_; rintro en w1 ⟨rfl, hb1⟩; clear hsp)
  have hblk : ∀ W, Below w1.heap.size w1 W → W.heap[w.heap.size]? = some (.cells (evCs e (.slice A e.lines.length c)) 25 (0, 0)) := fun W hb =>
    (hb.block _ (by have := hb1.size; simp at this; omega)).trans ((hb1.block _ (by simp)).trans (World.alloc_heap_new w _))
  have hkp : ∀ W, Below w1.heap.size w1 W → W.cell? ⟨w.heap.size, 0, none⟩ = some (.int .i64 e.kind) ∧ W.cell? ⟨w.heap.size, 1, none⟩ = some (.int .i64 e.day) ∧ W.cell? ⟨w.heap.size, 2, none⟩ = some (.string e.key) ∧ W.cell? ⟨w.heap.size, 3, none⟩ = some (.string e.account) ∧ W.cell? ⟨w.heap.size, 4, none⟩ = some (.string e.other) ∧ W.cell? ⟨w.heap.size, 5, none⟩ = some (.string e.ref) ∧ W.cell? ⟨w.heap.size, 6, none⟩ = some (.string e.ref2) ∧ W.cell? ⟨w.heap.size, 7, none⟩ = some (.int .i64 e.typ) ∧ W.cell? ⟨w.heap.size, 8, none⟩ = some (.int .i64 e.due) ∧ W.cell? ⟨w.heap.size, 9, none⟩ = some (.int .i64 e.amount) ∧ W.cell? ⟨w.heap.size, 10, none⟩ = some (.string e.memo) ∧ W.cell? ⟨w.heap.size, 11, none⟩ = some (.slice A e.lines.length c) ∧ Below w1.heap.size w1 W := fun W hb => by
    have := hblk W hb
    exact ⟨by rw [cell_of_blk this]; rfl, by rw [cell_of_blk this]; rfl, by rw [cell_of_blk this]; rfl, by rw [cell_of_blk this]; rfl, by rw [cell_of_blk this]; rfl, by rw [cell_of_blk this]; rfl, by rw [cell_of_blk this]; rfl, by rw [cell_of_blk this]; rfl, by rw [cell_of_blk this]; rfl, by rw [cell_of_blk this]; rfl, by rw [cell_of_blk this]; rfl, by rw [cell_of_blk this]; rfl, hb⟩
  have HB1 := Lib.hid ((bel1 w (.cells (evCs e (.slice A e.lines.length c)) 25)).trans (hb1.mono (by simp)))
  have KP := Lib.hid hkp
  clear hblk hkp hb1
  obtain ⟨g0, g1, g2, g3, g4, g5, g6, g7, g8, g9, g10, g11, g12⟩ := KP.out w1.drew (Below.refl _ _).drew
  have hg := HGD.out w1 HB1.out
  clear HGD
  cases hdb : dayB e.day with
  | false =>
    rw [hdb] at hd
    have HF := Lib.hid (show RV = 50 by rw [HRV.out]; unfold evB; rw [hdb]; rfl)
    clear hdb
    refine wp_region_held_drew (S := fun w' => w'.cell? ⟨w.heap.size, 0, none⟩ = some (.int .i64 e.kind) ∧ w'.cell? ⟨w.heap.size, 1, none⟩ = some (.int .i64 e.day) ∧ w'.cell? ⟨w.heap.size, 2, none⟩ = some (.string e.key) ∧ w'.cell? ⟨w.heap.size, 3, none⟩ = some (.string e.account) ∧ w'.cell? ⟨w.heap.size, 4, none⟩ = some (.string e.other) ∧ w'.cell? ⟨w.heap.size, 5, none⟩ = some (.string e.ref) ∧ w'.cell? ⟨w.heap.size, 6, none⟩ = some (.string e.ref2) ∧ w'.cell? ⟨w.heap.size, 7, none⟩ = some (.int .i64 e.typ) ∧ w'.cell? ⟨w.heap.size, 8, none⟩ = some (.int .i64 e.due) ∧ w'.cell? ⟨w.heap.size, 9, none⟩ = some (.int .i64 e.amount) ∧ w'.cell? ⟨w.heap.size, 10, none⟩ = some (.string e.memo) ∧ w'.cell? ⟨w.heap.size, 11, none⟩ = some (.slice A e.lines.length c) ∧ Below w1.heap.size w1 w') (by kernel_rfl) ⟨g0, g1, g2, g3, g4, g5, g6, g7, g8, g9, g10, g11, g12⟩ (fun hHeld => ?_)
    refine wpAnyH_take (i := 0) (v := ?_) rfl (by kernel_rfl) (by kernel_rfl) (by kernel_rfl) (fun _ _ _ h => h) (Or.inl ⟨by kernel_rfl, ?y0⟩) (by assumption) ?_
    case y0 =>
      intro w0 hSw
      (try dsimp only at hSw)
      go_simp
      try with_reducible rfl
    try simp only [Act.put, qa6, qb6, qc6, qd6, qe6, qf6]
    refine wpAnyH_take (i := 1) (v := ?_) rfl (by kernel_rfl) (by kernel_rfl) (by kernel_rfl) (fun _ _ _ h => h) (Or.inl ⟨by kernel_rfl, ?y1⟩) (by assumption) ?_
    case y1 =>
      intro w0 hSw
      (try dsimp only at hSw)
      go_simp
      try with_reducible rfl
    try simp only [Act.put, qa6, qb6, qc6, qd6, qe6, qf6]
    refine wpAnyH_ready (rs := [2]) (by kernel_rfl) (by simp) (AllReadyH.cons rfl (fun K hK => ?_) AllReadyH.nil)
    go_simp
    go_at_call 52; refine (hd _).mono ?_; rintro en w2 ⟨rfl, rfl⟩
    go_wp2_with fail
    refine hK.out _ _ ⟨g0, g1, g2, g3, g4, g5, g6, g7, g8, g9, g10, g11, g12⟩ (fun hHeld => ?_)
    clear hK K
    try simp only [Act.put, qa6, qb6, qc6, qd6, qe6, qf6]
    refine wpAnyH_take (i := 3) (v := ?_) rfl (by kernel_rfl) (by kernel_rfl) (by kernel_rfl) (fun _ _ _ h => h) (Or.inl ⟨by kernel_rfl, ?y3⟩) (by assumption) ?_
    case y3 =>
      intro w0 hSw
      (try dsimp only at hSw)
      go_simp
      try with_reducible rfl
    try simp only [Act.put, qa6, qb6, qc6, qd6, qe6, qf6]
    refine wpAnyH_take (i := 4) (v := ?_) rfl (by kernel_rfl) (by kernel_rfl) (by kernel_rfl) (fun _ _ _ h => h) (Or.inl ⟨by kernel_rfl, ?y4⟩) (by assumption) ?_
    case y4 =>
      intro w0 hSw
      (try dsimp only at hSw)
      go_simp
      try with_reducible rfl
    try simp only [Act.put, qa6, qb6, qc6, qd6, qe6, qf6]
    refine wpAnyH_take (i := 5) (v := undef) rfl (by kernel_rfl) (by kernel_rfl) (by kernel_rfl) (fun _ _ _ h => h) (Or.inr ⟨by kernel_rfl, rfl⟩) (by assumption) ?_
    try simp only [Act.put, qa6, qb6, qc6, qd6, qe6, qf6]
    refine wpAnyH_take (i := 6) (v := undef) rfl (by kernel_rfl) (by kernel_rfl) (by kernel_rfl) (fun _ _ _ h => h) (Or.inr ⟨by kernel_rfl, rfl⟩) (by assumption) ?_
    try simp only [Act.put, qa6, qb6, qc6, qd6, qe6, qf6]
    refine wpAnyH_take (i := 7) (v := undef) rfl (by kernel_rfl) (by kernel_rfl) (by kernel_rfl) (fun _ _ _ h => h) (Or.inr ⟨by kernel_rfl, rfl⟩) (by assumption) ?_
    try simp only [Act.put, qa6, qb6, qc6, qd6, qe6, qf6]
    refine wpAnyH_take (i := 8) (v := undef) rfl (by kernel_rfl) (by kernel_rfl) (by kernel_rfl) (fun _ _ _ h => h) (Or.inr ⟨by kernel_rfl, rfl⟩) (by assumption) ?_
    try simp only [Act.put, qa6, qb6, qc6, qd6, qe6, qf6]
    refine wpAnyH_take (i := 9) (v := undef) rfl (by kernel_rfl) (by kernel_rfl) (by kernel_rfl) (fun _ _ _ h => h) (Or.inr ⟨by kernel_rfl, rfl⟩) (by assumption) ?_
    try simp only [Act.put, qa6, qb6, qc6, qd6, qe6, qf6]
    refine wpAnyH_take (i := 10) (v := ?_) rfl (by kernel_rfl) (by kernel_rfl) (by kernel_rfl) (fun _ _ _ h => h) (Or.inl ⟨by kernel_rfl, ?y10⟩) (by assumption) ?_
    case y10 =>
      intro w0 hSw
      (try dsimp only at hSw)
      go_simp
      try with_reducible rfl
    try simp only [Act.put, qa6, qb6, qc6, qd6, qe6, qf6]
    refine wpAnyH_take (i := 11) (v := ?_) rfl (by kernel_rfl) (by kernel_rfl) (by kernel_rfl) (fun _ _ _ h => h) (Or.inl ⟨by kernel_rfl, ?y11⟩) (by assumption) ?_
    case y11 =>
      intro w0 hSw
      (try dsimp only at hSw)
      go_simp
      try with_reducible rfl
    try simp only [Act.put, qa6, qb6, qc6, qd6, qe6, qf6]
    refine wpAnyH_take (i := 12) (v := undef) rfl (by kernel_rfl) (by kernel_rfl) (by kernel_rfl) (fun _ _ _ h => h) (Or.inr ⟨by kernel_rfl, rfl⟩) (by assumption) ?_
    try simp only [Act.put, qa6, qb6, qc6, qd6, qe6, qf6]
    refine wpAnyH_take (i := 13) (v := undef) rfl (by kernel_rfl) (by kernel_rfl) (by kernel_rfl) (fun _ _ _ h => h) (Or.inr ⟨by kernel_rfl, rfl⟩) (by assumption) ?_
    try simp only [Act.put, qa6, qb6, qc6, qd6, qe6, qf6]
    refine wpAnyH_take (i := 14) (v := undef) rfl (by kernel_rfl) (by kernel_rfl) (by kernel_rfl) (fun _ _ _ h => h) (Or.inr ⟨by kernel_rfl, rfl⟩) (by assumption) ?_
    try simp only [Act.put, qa6, qb6, qc6, qd6, qe6, qf6]
    refine wpAnyH_take (i := 15) (v := undef) rfl (by kernel_rfl) (by kernel_rfl) (by kernel_rfl) (fun _ _ _ h => h) (Or.inr ⟨by kernel_rfl, rfl⟩) (by assumption) ?_
    try simp only [Act.put, qa6, qb6, qc6, qd6, qe6, qf6]
    refine wpAnyH_take (i := 16) (v := undef) rfl (by kernel_rfl) (by kernel_rfl) (by kernel_rfl) (fun _ _ _ h => h) (Or.inr ⟨by kernel_rfl, rfl⟩) (by assumption) ?_
    try simp only [Act.put, qa6, qb6, qc6, qd6, qe6, qf6]
    refine wpAnyH_take (i := 17) (v := undef) rfl (by kernel_rfl) (by kernel_rfl) (by kernel_rfl) (fun _ _ _ h => h) (Or.inr ⟨by kernel_rfl, rfl⟩) (by assumption) ?_
    try simp only [Act.put, qa6, qb6, qc6, qd6, qe6, qf6]
    refine wpAnyH_take (i := 18) (v := undef) rfl (by kernel_rfl) (by kernel_rfl) (by kernel_rfl) (fun _ _ _ h => h) (Or.inr ⟨by kernel_rfl, rfl⟩) (by assumption) ?_
    try simp only [Act.put, qa6, qb6, qc6, qd6, qe6, qf6]
    refine wpAnyH_take (i := 19) (v := ?_) rfl (by kernel_rfl) (by kernel_rfl) (by kernel_rfl) (fun _ _ _ h => h) (Or.inl ⟨by kernel_rfl, ?y19⟩) (by assumption) ?_
    case y19 =>
      intro w0 hSw
      (try dsimp only at hSw)
      go_simp
      try with_reducible rfl
    try simp only [Act.put, qa6, qb6, qc6, qd6, qe6, qf6]
    refine wpAnyH_done (by kernel_rfl) ?_ _
    go_wp2
    go_ret
    exact ⟨by rw [HF.out]; rfl, HB1.out.trans (g12.mono HB1.out.size)⟩
  | true =>
    rw [hdb] at hd
    have HDB := Lib.hid hdb
    clear hdb
    cases hfb : fieldsB e with
    | false =>
      have HF := Lib.hid (show RV = 50 by rw [HRV.out]; unfold evB; rw [hfb]; simp)
      rw [hfb] at hg
      clear hfb
      refine wp_region_held_drew (S := fun w' => w'.cell? ⟨w.heap.size, 0, none⟩ = some (.int .i64 e.kind) ∧ w'.cell? ⟨w.heap.size, 1, none⟩ = some (.int .i64 e.day) ∧ w'.cell? ⟨w.heap.size, 2, none⟩ = some (.string e.key) ∧ w'.cell? ⟨w.heap.size, 3, none⟩ = some (.string e.account) ∧ w'.cell? ⟨w.heap.size, 4, none⟩ = some (.string e.other) ∧ w'.cell? ⟨w.heap.size, 5, none⟩ = some (.string e.ref) ∧ w'.cell? ⟨w.heap.size, 6, none⟩ = some (.string e.ref2) ∧ w'.cell? ⟨w.heap.size, 7, none⟩ = some (.int .i64 e.typ) ∧ w'.cell? ⟨w.heap.size, 8, none⟩ = some (.int .i64 e.due) ∧ w'.cell? ⟨w.heap.size, 9, none⟩ = some (.int .i64 e.amount) ∧ w'.cell? ⟨w.heap.size, 10, none⟩ = some (.string e.memo) ∧ w'.cell? ⟨w.heap.size, 11, none⟩ = some (.slice A e.lines.length c) ∧ Below w1.heap.size w1 w') (by kernel_rfl) ⟨g0, g1, g2, g3, g4, g5, g6, g7, g8, g9, g10, g11, g12⟩ (fun hHeld => ?_)
      refine wpAnyH_take (i := 0) (v := ?_) rfl (by kernel_rfl) (by kernel_rfl) (by kernel_rfl) (fun _ _ _ h => h) (Or.inl ⟨by kernel_rfl, ?y0⟩) (by assumption) ?_
      case y0 =>
        intro w0 hSw
        (try dsimp only at hSw)
        go_simp
        try with_reducible rfl
      try simp only [Act.put, qa6, qb6, qc6, qd6, qe6, qf6]
      refine wpAnyH_take (i := 1) (v := ?_) rfl (by kernel_rfl) (by kernel_rfl) (by kernel_rfl) (fun _ _ _ h => h) (Or.inl ⟨by kernel_rfl, ?y1⟩) (by assumption) ?_
      case y1 =>
        intro w0 hSw
        (try dsimp only at hSw)
        go_simp
        try with_reducible rfl
      try simp only [Act.put, qa6, qb6, qc6, qd6, qe6, qf6]
      refine wpAnyH_ready (rs := [2]) (by kernel_rfl) (by simp) (AllReadyH.cons rfl (fun K hK => ?_) AllReadyH.nil)
      go_simp
      go_at_call 52; refine (hd _).mono ?_; rintro en w2 ⟨rfl, rfl⟩
      go_wp2_with fail
      refine hK.out _ _ ⟨g0, g1, g2, g3, g4, g5, g6, g7, g8, g9, g10, g11, g12⟩ (fun hHeld => ?_)
      clear hK K
      try simp only [Act.put, qa6, qb6, qc6, qd6, qe6, qf6]
      refine wpAnyH_take (i := 3) (v := ?_) rfl (by kernel_rfl) (by kernel_rfl) (by kernel_rfl) (fun _ _ _ h => h) (Or.inl ⟨by kernel_rfl, ?y3⟩) (by assumption) ?_
      case y3 =>
        intro w0 hSw
        (try dsimp only at hSw)
        go_simp
        try with_reducible rfl
      try simp only [Act.put, qa6, qb6, qc6, qd6, qe6, qf6]
      refine wpAnyH_take (i := 4) (v := ?_) rfl (by kernel_rfl) (by kernel_rfl) (by kernel_rfl) (fun _ _ _ h => h) (Or.inl ⟨by kernel_rfl, ?y4⟩) (by assumption) ?_
      case y4 =>
        intro w0 hSw
        (try dsimp only at hSw)
        go_simp
        try with_reducible rfl
      try simp only [Act.put, qa6, qb6, qc6, qd6, qe6, qf6]
      refine wpAnyH_take (i := 5) (v := ?_) rfl (by kernel_rfl) (by kernel_rfl) (by kernel_rfl) (fun _ _ _ h => h) (Or.inl ⟨by kernel_rfl, ?y5⟩) (by assumption) ?_
      case y5 =>
        intro w0 hSw
        (try dsimp only at hSw)
        go_simp
        try with_reducible rfl
      try simp only [Act.put, qa6, qb6, qc6, qd6, qe6, qf6]
      refine wpAnyH_take (i := 6) (v := ?_) rfl (by kernel_rfl) (by kernel_rfl) (by kernel_rfl) (fun _ _ _ h => h) (Or.inl ⟨by kernel_rfl, ?y6⟩) (by assumption) ?_
      case y6 =>
        intro w0 hSw
        (try dsimp only at hSw)
        go_simp
        try with_reducible rfl
      try simp only [Act.put, qa6, qb6, qc6, qd6, qe6, qf6]
      refine wpAnyH_take (i := 7) (v := ?_) rfl (by kernel_rfl) (by kernel_rfl) (by kernel_rfl) (fun _ _ _ h => h) (Or.inl ⟨by kernel_rfl, ?y7⟩) (by assumption) ?_
      case y7 =>
        intro w0 hSw
        (try dsimp only at hSw)
        go_simp
        try with_reducible rfl
      try simp only [Act.put, qa6, qb6, qc6, qd6, qe6, qf6]
      refine wpAnyH_ready (rs := [8]) (by kernel_rfl) (by simp) (AllReadyH.cons rfl (fun K hK => ?_) AllReadyH.nil)
      go_simp
      go_at_call 53; refine (hg _ g12).mono ?_; rintro en w2 ⟨rfl, hb⟩; have g12' := g12.trans (hb.mono g12.size); have GK := KP.out _ g12'; clear g0 g1 g2 g3 g4 g5 g6 g7 g8 g9 g10 g11 g12 g12'; obtain ⟨g0, g1, g2, g3, g4, g5, g6, g7, g8, g9, g10, g11, g12⟩ := GK
      go_wp2_with fail
      refine hK.out _ _ ⟨g0, g1, g2, g3, g4, g5, g6, g7, g8, g9, g10, g11, g12⟩ (fun hHeld => ?_)
      clear hK K
      try simp only [Act.put, qa6, qb6, qc6, qd6, qe6, qf6]
      refine wpAnyH_take (i := 9) (v := ?_) rfl (by kernel_rfl) (by kernel_rfl) (by kernel_rfl) (fun _ _ _ h => h) (Or.inl ⟨by kernel_rfl, ?y9⟩) (by assumption) ?_
      case y9 =>
        intro w0 hSw
        (try dsimp only at hSw)
        go_simp
        try with_reducible rfl
      try simp only [Act.put, qa6, qb6, qc6, qd6, qe6, qf6]
      refine wpAnyH_take (i := 10) (v := ?_) rfl (by kernel_rfl) (by kernel_rfl) (by kernel_rfl) (fun _ _ _ h => h) (Or.inl ⟨by kernel_rfl, ?y10⟩) (by assumption) ?_
      case y10 =>
        intro w0 hSw
        (try dsimp only at hSw)
        go_simp
        try with_reducible rfl
      try simp only [Act.put, qa6, qb6, qc6, qd6, qe6, qf6]
      refine wpAnyH_take (i := 11) (v := ?_) rfl (by kernel_rfl) (by kernel_rfl) (by kernel_rfl) (fun _ _ _ h => h) (Or.inl ⟨by kernel_rfl, ?y11⟩) (by assumption) ?_
      case y11 =>
        intro w0 hSw
        (try dsimp only at hSw)
        go_simp
        try with_reducible rfl
      try simp only [Act.put, qa6, qb6, qc6, qd6, qe6, qf6]
      refine wpAnyH_take (i := 12) (v := undef) rfl (by kernel_rfl) (by kernel_rfl) (by kernel_rfl) (fun _ _ _ h => h) (Or.inr ⟨by kernel_rfl, rfl⟩) (by assumption) ?_
      try simp only [Act.put, qa6, qb6, qc6, qd6, qe6, qf6]
      refine wpAnyH_take (i := 13) (v := undef) rfl (by kernel_rfl) (by kernel_rfl) (by kernel_rfl) (fun _ _ _ h => h) (Or.inr ⟨by kernel_rfl, rfl⟩) (by assumption) ?_
      try simp only [Act.put, qa6, qb6, qc6, qd6, qe6, qf6]
      refine wpAnyH_take (i := 14) (v := undef) rfl (by kernel_rfl) (by kernel_rfl) (by kernel_rfl) (fun _ _ _ h => h) (Or.inr ⟨by kernel_rfl, rfl⟩) (by assumption) ?_
      try simp only [Act.put, qa6, qb6, qc6, qd6, qe6, qf6]
      refine wpAnyH_take (i := 15) (v := undef) rfl (by kernel_rfl) (by kernel_rfl) (by kernel_rfl) (fun _ _ _ h => h) (Or.inr ⟨by kernel_rfl, rfl⟩) (by assumption) ?_
      try simp only [Act.put, qa6, qb6, qc6, qd6, qe6, qf6]
      refine wpAnyH_take (i := 16) (v := undef) rfl (by kernel_rfl) (by kernel_rfl) (by kernel_rfl) (fun _ _ _ h => h) (Or.inr ⟨by kernel_rfl, rfl⟩) (by assumption) ?_
      try simp only [Act.put, qa6, qb6, qc6, qd6, qe6, qf6]
      refine wpAnyH_take (i := 17) (v := undef) rfl (by kernel_rfl) (by kernel_rfl) (by kernel_rfl) (fun _ _ _ h => h) (Or.inr ⟨by kernel_rfl, rfl⟩) (by assumption) ?_
      try simp only [Act.put, qa6, qb6, qc6, qd6, qe6, qf6]
      refine wpAnyH_take (i := 18) (v := undef) rfl (by kernel_rfl) (by kernel_rfl) (by kernel_rfl) (fun _ _ _ h => h) (Or.inr ⟨by kernel_rfl, rfl⟩) (by assumption) ?_
      try simp only [Act.put, qa6, qb6, qc6, qd6, qe6, qf6]
      refine wpAnyH_take (i := 19) (v := ?_) rfl (by kernel_rfl) (by kernel_rfl) (by kernel_rfl) (fun _ _ _ h => h) (Or.inl ⟨by kernel_rfl, ?y19⟩) (by assumption) ?_
      case y19 =>
        intro w0 hSw
        (try dsimp only at hSw)
        go_simp
        try with_reducible rfl
      try simp only [Act.put, qa6, qb6, qc6, qd6, qe6, qf6]
      refine wpAnyH_done (by kernel_rfl) ?_ _
      go_wp2
      go_ret
      exact ⟨by rw [HF.out]; rfl, HB1.out.trans (g12.mono HB1.out.size)⟩
    | true =>
      have hj := HJ.out hfb
      have hsm := HSM.out hfb
      have HF := Lib.hid (show RV = if ownB e = true then 0 else 50 by rw [HRV.out]; unfold evB; rw [hfb, HDB.out]; simp)
      rw [hfb] at hg
      clear hfb HJ HSM HRV HDB
      generalize ownB e = OB at *
      generalize evV (joinV e) lv' = jv at *
      unfold evV at hsm
      cases OB
      · have HF' := Lib.hid (show RV = 50 by rw [HF.out]; rfl)
        clear HF
        refine wp_region_held_drew (S := fun w' => w'.cell? ⟨w.heap.size, 0, none⟩ = some (.int .i64 e.kind) ∧ w'.cell? ⟨w.heap.size, 1, none⟩ = some (.int .i64 e.day) ∧ w'.cell? ⟨w.heap.size, 2, none⟩ = some (.string e.key) ∧ w'.cell? ⟨w.heap.size, 3, none⟩ = some (.string e.account) ∧ w'.cell? ⟨w.heap.size, 4, none⟩ = some (.string e.other) ∧ w'.cell? ⟨w.heap.size, 5, none⟩ = some (.string e.ref) ∧ w'.cell? ⟨w.heap.size, 6, none⟩ = some (.string e.ref2) ∧ w'.cell? ⟨w.heap.size, 7, none⟩ = some (.int .i64 e.typ) ∧ w'.cell? ⟨w.heap.size, 8, none⟩ = some (.int .i64 e.due) ∧ w'.cell? ⟨w.heap.size, 9, none⟩ = some (.int .i64 e.amount) ∧ w'.cell? ⟨w.heap.size, 10, none⟩ = some (.string e.memo) ∧ w'.cell? ⟨w.heap.size, 11, none⟩ = some (.slice A e.lines.length c) ∧ Below w1.heap.size w1 w') (by kernel_rfl) ⟨g0, g1, g2, g3, g4, g5, g6, g7, g8, g9, g10, g11, g12⟩ (fun hHeld => ?_)
        refine wpAnyH_take (i := 0) (v := ?_) rfl (by kernel_rfl) (by kernel_rfl) (by kernel_rfl) (fun _ _ _ h => h) (Or.inl ⟨by kernel_rfl, ?y0⟩) (by assumption) ?_
        case y0 =>
          intro w0 hSw
          (try dsimp only at hSw)
          go_simp
          try with_reducible rfl
        try simp only [Act.put, qa6, qb6, qc6, qd6, qe6, qf6]
        refine wpAnyH_take (i := 1) (v := ?_) rfl (by kernel_rfl) (by kernel_rfl) (by kernel_rfl) (fun _ _ _ h => h) (Or.inl ⟨by kernel_rfl, ?y1⟩) (by assumption) ?_
        case y1 =>
          intro w0 hSw
          (try dsimp only at hSw)
          go_simp
          try with_reducible rfl
        try simp only [Act.put, qa6, qb6, qc6, qd6, qe6, qf6]
        refine wpAnyH_ready (rs := [2]) (by kernel_rfl) (by simp) (AllReadyH.cons rfl (fun K hK => ?_) AllReadyH.nil)
        go_simp
        go_at_call 52; refine (hd _).mono ?_; rintro en w2 ⟨rfl, rfl⟩
        go_wp2_with fail
        refine hK.out _ _ ⟨g0, g1, g2, g3, g4, g5, g6, g7, g8, g9, g10, g11, g12⟩ (fun hHeld => ?_)
        clear hK K
        try simp only [Act.put, qa6, qb6, qc6, qd6, qe6, qf6]
        refine wpAnyH_take (i := 3) (v := ?_) rfl (by kernel_rfl) (by kernel_rfl) (by kernel_rfl) (fun _ _ _ h => h) (Or.inl ⟨by kernel_rfl, ?y3⟩) (by assumption) ?_
        case y3 =>
          intro w0 hSw
          (try dsimp only at hSw)
          go_simp
          try with_reducible rfl
        try simp only [Act.put, qa6, qb6, qc6, qd6, qe6, qf6]
        refine wpAnyH_take (i := 4) (v := ?_) rfl (by kernel_rfl) (by kernel_rfl) (by kernel_rfl) (fun _ _ _ h => h) (Or.inl ⟨by kernel_rfl, ?y4⟩) (by assumption) ?_
        case y4 =>
          intro w0 hSw
          (try dsimp only at hSw)
          go_simp
          try with_reducible rfl
        try simp only [Act.put, qa6, qb6, qc6, qd6, qe6, qf6]
        refine wpAnyH_take (i := 5) (v := ?_) rfl (by kernel_rfl) (by kernel_rfl) (by kernel_rfl) (fun _ _ _ h => h) (Or.inl ⟨by kernel_rfl, ?y5⟩) (by assumption) ?_
        case y5 =>
          intro w0 hSw
          (try dsimp only at hSw)
          go_simp
          try with_reducible rfl
        try simp only [Act.put, qa6, qb6, qc6, qd6, qe6, qf6]
        refine wpAnyH_take (i := 6) (v := ?_) rfl (by kernel_rfl) (by kernel_rfl) (by kernel_rfl) (fun _ _ _ h => h) (Or.inl ⟨by kernel_rfl, ?y6⟩) (by assumption) ?_
        case y6 =>
          intro w0 hSw
          (try dsimp only at hSw)
          go_simp
          try with_reducible rfl
        try simp only [Act.put, qa6, qb6, qc6, qd6, qe6, qf6]
        refine wpAnyH_take (i := 7) (v := ?_) rfl (by kernel_rfl) (by kernel_rfl) (by kernel_rfl) (fun _ _ _ h => h) (Or.inl ⟨by kernel_rfl, ?y7⟩) (by assumption) ?_
        case y7 =>
          intro w0 hSw
          (try dsimp only at hSw)
          go_simp
          try with_reducible rfl
        try simp only [Act.put, qa6, qb6, qc6, qd6, qe6, qf6]
        refine wpAnyH_ready (rs := [8]) (by kernel_rfl) (by simp) (AllReadyH.cons rfl (fun K hK => ?_) AllReadyH.nil)
        go_simp
        go_at_call 53; refine (hg _ g12).mono ?_; rintro en w2 ⟨rfl, hb⟩; have g12' := g12.trans (hb.mono g12.size); have GK := KP.out _ g12'; clear g0 g1 g2 g3 g4 g5 g6 g7 g8 g9 g10 g11 g12 g12'; obtain ⟨g0, g1, g2, g3, g4, g5, g6, g7, g8, g9, g10, g11, g12⟩ := GK
        go_wp2_with fail
        refine hK.out _ _ ⟨g0, g1, g2, g3, g4, g5, g6, g7, g8, g9, g10, g11, g12⟩ (fun hHeld => ?_)
        clear hK K
        try simp only [Act.put, qa6, qb6, qc6, qd6, qe6, qf6]
        refine wpAnyH_take (i := 9) (v := ?_) rfl (by kernel_rfl) (by kernel_rfl) (by kernel_rfl) (fun _ _ _ h => h) (Or.inl ⟨by kernel_rfl, ?y9⟩) (by assumption) ?_
        case y9 =>
          intro w0 hSw
          (try dsimp only at hSw)
          go_simp
          try with_reducible rfl
        try simp only [Act.put, qa6, qb6, qc6, qd6, qe6, qf6]
        refine wpAnyH_take (i := 10) (v := ?_) rfl (by kernel_rfl) (by kernel_rfl) (by kernel_rfl) (fun _ _ _ h => h) (Or.inl ⟨by kernel_rfl, ?y10⟩) (by assumption) ?_
        case y10 =>
          intro w0 hSw
          (try dsimp only at hSw)
          go_simp
          try with_reducible rfl
        try simp only [Act.put, qa6, qb6, qc6, qd6, qe6, qf6]
        refine wpAnyH_take (i := 11) (v := ?_) rfl (by kernel_rfl) (by kernel_rfl) (by kernel_rfl) (fun _ _ _ h => h) (Or.inl ⟨by kernel_rfl, ?y11⟩) (by assumption) ?_
        case y11 =>
          intro w0 hSw
          (try dsimp only at hSw)
          go_simp
          try with_reducible rfl
        try simp only [Act.put, qa6, qb6, qc6, qd6, qe6, qf6]
        refine wpAnyH_take (i := 12) (v := ?_) rfl (by kernel_rfl) (by kernel_rfl) (by kernel_rfl) (fun _ _ _ h => h) (Or.inl ⟨by kernel_rfl, ?y12⟩) (by assumption) ?_
        case y12 =>
          intro w0 hSw
          (try dsimp only at hSw)
          go_simp
          try with_reducible rfl
        try simp only [Act.put, qa6, qb6, qc6, qd6, qe6, qf6]
        refine wpAnyH_take (i := 13) (v := ?_) rfl (by kernel_rfl) (by kernel_rfl) (by kernel_rfl) (fun _ _ _ h => h) (Or.inl ⟨by kernel_rfl, ?y13⟩) (by assumption) ?_
        case y13 =>
          intro w0 hSw
          (try dsimp only at hSw)
          go_simp
          try with_reducible rfl
        try simp only [Act.put, qa6, qb6, qc6, qd6, qe6, qf6]
        refine wpAnyH_take (i := 14) (v := ?_) rfl (by kernel_rfl) (by kernel_rfl) (by kernel_rfl) (fun _ _ _ h => h) (Or.inl ⟨by kernel_rfl, ?y14⟩) (by assumption) ?_
        case y14 =>
          intro w0 hSw
          (try dsimp only at hSw)
          go_simp
          try with_reducible rfl
        try simp only [Act.put, qa6, qb6, qc6, qd6, qe6, qf6]
        refine wpAnyH_take (i := 16) (v := ?_) rfl (by kernel_rfl) (by kernel_rfl) (by kernel_rfl) (fun _ _ _ h => h) (Or.inl ⟨by kernel_rfl, ?y16⟩) (by assumption) ?_
        case y16 =>
          intro w0 hSw
          (try dsimp only at hSw)
          go_simp
          try with_reducible rfl
        try simp only [Act.put, qa6, qb6, qc6, qd6, qe6, qf6]
        refine wpAnyH_ready (rs := [15]) (by kernel_rfl) (by simp) (AllReadyH.cons rfl (fun K hK => ?_) AllReadyH.nil)
        go_simp
        go_at_call 55; refine (hj _).mono ?_; rintro en w2 ⟨rfl, hb⟩; have g12' := g12.trans (hb.mono g12.size); have GK := KP.out _ g12'; clear g0 g1 g2 g3 g4 g5 g6 g7 g8 g9 g10 g11 g12 g12'; obtain ⟨g0, g1, g2, g3, g4, g5, g6, g7, g8, g9, g10, g11, g12⟩ := GK
        go_wp2_with fail
        refine hK.out _ _ ⟨g0, g1, g2, g3, g4, g5, g6, g7, g8, g9, g10, g11, g12⟩ (fun hHeld => ?_)
        clear hK K
        try simp only [Act.put, qa6, qb6, qc6, qd6, qe6, qf6]
        refine wpAnyH_ready (rs := [17]) (by kernel_rfl) (by simp) (AllReadyH.cons rfl (fun K hK => ?_) AllReadyH.nil)
        go_simp
        go_at_call 54; refine (hsm _).mono ?_; rintro en w2 ⟨rfl, hb⟩; have g12' := g12.trans (hb.mono g12.size); have GK := KP.out _ g12'; clear g0 g1 g2 g3 g4 g5 g6 g7 g8 g9 g10 g11 g12 g12'; obtain ⟨g0, g1, g2, g3, g4, g5, g6, g7, g8, g9, g10, g11, g12⟩ := GK
        go_wp2_with fail
        refine hK.out _ _ ⟨g0, g1, g2, g3, g4, g5, g6, g7, g8, g9, g10, g11, g12⟩ (fun hHeld => ?_)
        clear hK K
        try simp only [Act.put, qa6, qb6, qc6, qd6, qe6, qf6]
        refine wpAnyH_take (i := 18) (v := ?_) rfl (by kernel_rfl) (by kernel_rfl) (by kernel_rfl) (fun _ _ _ h => h) (Or.inl ⟨by kernel_rfl, ?y18⟩) (by assumption) ?_
        case y18 =>
          intro w0 hSw
          (try dsimp only at hSw)
          go_simp
          try with_reducible rfl
        try simp only [Act.put, qa6, qb6, qc6, qd6, qe6, qf6]
        refine wpAnyH_take (i := 19) (v := ?_) rfl (by kernel_rfl) (by kernel_rfl) (by kernel_rfl) (fun _ _ _ h => h) (Or.inl ⟨by kernel_rfl, ?y19⟩) (by assumption) ?_
        case y19 =>
          intro w0 hSw
          (try dsimp only at hSw)
          go_simp
          try with_reducible rfl
        try simp only [Act.put, qa6, qb6, qc6, qd6, qe6, qf6]
        refine wpAnyH_done (by kernel_rfl) ?_ _
        go_wp2
        go_ret
        exact ⟨by rw [HF'.out]; rfl, HB1.out.trans (g12.mono HB1.out.size)⟩
      · have HF' := Lib.hid (show RV = 0 by rw [HF.out]; rfl)
        clear HF
        refine wp_region_held_drew (S := fun w' => w'.cell? ⟨w.heap.size, 0, none⟩ = some (.int .i64 e.kind) ∧ w'.cell? ⟨w.heap.size, 1, none⟩ = some (.int .i64 e.day) ∧ w'.cell? ⟨w.heap.size, 2, none⟩ = some (.string e.key) ∧ w'.cell? ⟨w.heap.size, 3, none⟩ = some (.string e.account) ∧ w'.cell? ⟨w.heap.size, 4, none⟩ = some (.string e.other) ∧ w'.cell? ⟨w.heap.size, 5, none⟩ = some (.string e.ref) ∧ w'.cell? ⟨w.heap.size, 6, none⟩ = some (.string e.ref2) ∧ w'.cell? ⟨w.heap.size, 7, none⟩ = some (.int .i64 e.typ) ∧ w'.cell? ⟨w.heap.size, 8, none⟩ = some (.int .i64 e.due) ∧ w'.cell? ⟨w.heap.size, 9, none⟩ = some (.int .i64 e.amount) ∧ w'.cell? ⟨w.heap.size, 10, none⟩ = some (.string e.memo) ∧ w'.cell? ⟨w.heap.size, 11, none⟩ = some (.slice A e.lines.length c) ∧ Below w1.heap.size w1 w') (by kernel_rfl) ⟨g0, g1, g2, g3, g4, g5, g6, g7, g8, g9, g10, g11, g12⟩ (fun hHeld => ?_)
        refine wpAnyH_take (i := 0) (v := ?_) rfl (by kernel_rfl) (by kernel_rfl) (by kernel_rfl) (fun _ _ _ h => h) (Or.inl ⟨by kernel_rfl, ?y0⟩) (by assumption) ?_
        case y0 =>
          intro w0 hSw
          (try dsimp only at hSw)
          go_simp
          try with_reducible rfl
        try simp only [Act.put, qa6, qb6, qc6, qd6, qe6, qf6]
        refine wpAnyH_take (i := 1) (v := ?_) rfl (by kernel_rfl) (by kernel_rfl) (by kernel_rfl) (fun _ _ _ h => h) (Or.inl ⟨by kernel_rfl, ?y1⟩) (by assumption) ?_
        case y1 =>
          intro w0 hSw
          (try dsimp only at hSw)
          go_simp
          try with_reducible rfl
        try simp only [Act.put, qa6, qb6, qc6, qd6, qe6, qf6]
        refine wpAnyH_ready (rs := [2]) (by kernel_rfl) (by simp) (AllReadyH.cons rfl (fun K hK => ?_) AllReadyH.nil)
        go_simp
        go_at_call 52; refine (hd _).mono ?_; rintro en w2 ⟨rfl, rfl⟩
        go_wp2_with fail
        refine hK.out _ _ ⟨g0, g1, g2, g3, g4, g5, g6, g7, g8, g9, g10, g11, g12⟩ (fun hHeld => ?_)
        clear hK K
        try simp only [Act.put, qa6, qb6, qc6, qd6, qe6, qf6]
        refine wpAnyH_take (i := 3) (v := ?_) rfl (by kernel_rfl) (by kernel_rfl) (by kernel_rfl) (fun _ _ _ h => h) (Or.inl ⟨by kernel_rfl, ?y3⟩) (by assumption) ?_
        case y3 =>
          intro w0 hSw
          (try dsimp only at hSw)
          go_simp
          try with_reducible rfl
        try simp only [Act.put, qa6, qb6, qc6, qd6, qe6, qf6]
        refine wpAnyH_take (i := 4) (v := ?_) rfl (by kernel_rfl) (by kernel_rfl) (by kernel_rfl) (fun _ _ _ h => h) (Or.inl ⟨by kernel_rfl, ?y4⟩) (by assumption) ?_
        case y4 =>
          intro w0 hSw
          (try dsimp only at hSw)
          go_simp
          try with_reducible rfl
        try simp only [Act.put, qa6, qb6, qc6, qd6, qe6, qf6]
        refine wpAnyH_take (i := 5) (v := ?_) rfl (by kernel_rfl) (by kernel_rfl) (by kernel_rfl) (fun _ _ _ h => h) (Or.inl ⟨by kernel_rfl, ?y5⟩) (by assumption) ?_
        case y5 =>
          intro w0 hSw
          (try dsimp only at hSw)
          go_simp
          try with_reducible rfl
        try simp only [Act.put, qa6, qb6, qc6, qd6, qe6, qf6]
        refine wpAnyH_take (i := 6) (v := ?_) rfl (by kernel_rfl) (by kernel_rfl) (by kernel_rfl) (fun _ _ _ h => h) (Or.inl ⟨by kernel_rfl, ?y6⟩) (by assumption) ?_
        case y6 =>
          intro w0 hSw
          (try dsimp only at hSw)
          go_simp
          try with_reducible rfl
        try simp only [Act.put, qa6, qb6, qc6, qd6, qe6, qf6]
        refine wpAnyH_take (i := 7) (v := ?_) rfl (by kernel_rfl) (by kernel_rfl) (by kernel_rfl) (fun _ _ _ h => h) (Or.inl ⟨by kernel_rfl, ?y7⟩) (by assumption) ?_
        case y7 =>
          intro w0 hSw
          (try dsimp only at hSw)
          go_simp
          try with_reducible rfl
        try simp only [Act.put, qa6, qb6, qc6, qd6, qe6, qf6]
        refine wpAnyH_ready (rs := [8]) (by kernel_rfl) (by simp) (AllReadyH.cons rfl (fun K hK => ?_) AllReadyH.nil)
        go_simp
        go_at_call 53; refine (hg _ g12).mono ?_; rintro en w2 ⟨rfl, hb⟩; have g12' := g12.trans (hb.mono g12.size); have GK := KP.out _ g12'; clear g0 g1 g2 g3 g4 g5 g6 g7 g8 g9 g10 g11 g12 g12'; obtain ⟨g0, g1, g2, g3, g4, g5, g6, g7, g8, g9, g10, g11, g12⟩ := GK
        go_wp2_with fail
        refine hK.out _ _ ⟨g0, g1, g2, g3, g4, g5, g6, g7, g8, g9, g10, g11, g12⟩ (fun hHeld => ?_)
        clear hK K
        try simp only [Act.put, qa6, qb6, qc6, qd6, qe6, qf6]
        refine wpAnyH_take (i := 9) (v := ?_) rfl (by kernel_rfl) (by kernel_rfl) (by kernel_rfl) (fun _ _ _ h => h) (Or.inl ⟨by kernel_rfl, ?y9⟩) (by assumption) ?_
        case y9 =>
          intro w0 hSw
          (try dsimp only at hSw)
          go_simp
          try with_reducible rfl
        try simp only [Act.put, qa6, qb6, qc6, qd6, qe6, qf6]
        refine wpAnyH_take (i := 10) (v := ?_) rfl (by kernel_rfl) (by kernel_rfl) (by kernel_rfl) (fun _ _ _ h => h) (Or.inl ⟨by kernel_rfl, ?y10⟩) (by assumption) ?_
        case y10 =>
          intro w0 hSw
          (try dsimp only at hSw)
          go_simp
          try with_reducible rfl
        try simp only [Act.put, qa6, qb6, qc6, qd6, qe6, qf6]
        refine wpAnyH_take (i := 11) (v := ?_) rfl (by kernel_rfl) (by kernel_rfl) (by kernel_rfl) (fun _ _ _ h => h) (Or.inl ⟨by kernel_rfl, ?y11⟩) (by assumption) ?_
        case y11 =>
          intro w0 hSw
          (try dsimp only at hSw)
          go_simp
          try with_reducible rfl
        try simp only [Act.put, qa6, qb6, qc6, qd6, qe6, qf6]
        refine wpAnyH_take (i := 12) (v := ?_) rfl (by kernel_rfl) (by kernel_rfl) (by kernel_rfl) (fun _ _ _ h => h) (Or.inl ⟨by kernel_rfl, ?y12⟩) (by assumption) ?_
        case y12 =>
          intro w0 hSw
          (try dsimp only at hSw)
          go_simp
          try with_reducible rfl
        try simp only [Act.put, qa6, qb6, qc6, qd6, qe6, qf6]
        refine wpAnyH_take (i := 13) (v := ?_) rfl (by kernel_rfl) (by kernel_rfl) (by kernel_rfl) (fun _ _ _ h => h) (Or.inl ⟨by kernel_rfl, ?y13⟩) (by assumption) ?_
        case y13 =>
          intro w0 hSw
          (try dsimp only at hSw)
          go_simp
          try with_reducible rfl
        try simp only [Act.put, qa6, qb6, qc6, qd6, qe6, qf6]
        refine wpAnyH_take (i := 14) (v := ?_) rfl (by kernel_rfl) (by kernel_rfl) (by kernel_rfl) (fun _ _ _ h => h) (Or.inl ⟨by kernel_rfl, ?y14⟩) (by assumption) ?_
        case y14 =>
          intro w0 hSw
          (try dsimp only at hSw)
          go_simp
          try with_reducible rfl
        try simp only [Act.put, qa6, qb6, qc6, qd6, qe6, qf6]
        refine wpAnyH_take (i := 16) (v := ?_) rfl (by kernel_rfl) (by kernel_rfl) (by kernel_rfl) (fun _ _ _ h => h) (Or.inl ⟨by kernel_rfl, ?y16⟩) (by assumption) ?_
        case y16 =>
          intro w0 hSw
          (try dsimp only at hSw)
          go_simp
          try with_reducible rfl
        try simp only [Act.put, qa6, qb6, qc6, qd6, qe6, qf6]
        refine wpAnyH_ready (rs := [15]) (by kernel_rfl) (by simp) (AllReadyH.cons rfl (fun K hK => ?_) AllReadyH.nil)
        go_simp
        go_at_call 55; refine (hj _).mono ?_; rintro en w2 ⟨rfl, hb⟩; have g12' := g12.trans (hb.mono g12.size); have GK := KP.out _ g12'; clear g0 g1 g2 g3 g4 g5 g6 g7 g8 g9 g10 g11 g12 g12'; obtain ⟨g0, g1, g2, g3, g4, g5, g6, g7, g8, g9, g10, g11, g12⟩ := GK
        go_wp2_with fail
        refine hK.out _ _ ⟨g0, g1, g2, g3, g4, g5, g6, g7, g8, g9, g10, g11, g12⟩ (fun hHeld => ?_)
        clear hK K
        try simp only [Act.put, qa6, qb6, qc6, qd6, qe6, qf6]
        refine wpAnyH_ready (rs := [17]) (by kernel_rfl) (by simp) (AllReadyH.cons rfl (fun K hK => ?_) AllReadyH.nil)
        go_simp
        go_at_call 54; refine (hsm _).mono ?_; rintro en w2 ⟨rfl, hb⟩; have g12' := g12.trans (hb.mono g12.size); have GK := KP.out _ g12'; clear g0 g1 g2 g3 g4 g5 g6 g7 g8 g9 g10 g11 g12 g12'; obtain ⟨g0, g1, g2, g3, g4, g5, g6, g7, g8, g9, g10, g11, g12⟩ := GK
        go_wp2_with fail
        refine hK.out _ _ ⟨g0, g1, g2, g3, g4, g5, g6, g7, g8, g9, g10, g11, g12⟩ (fun hHeld => ?_)
        clear hK K
        try simp only [Act.put, qa6, qb6, qc6, qd6, qe6, qf6]
        refine wpAnyH_take (i := 18) (v := ?_) rfl (by kernel_rfl) (by kernel_rfl) (by kernel_rfl) (fun _ _ _ h => h) (Or.inl ⟨by kernel_rfl, ?y18⟩) (by assumption) ?_
        case y18 =>
          intro w0 hSw
          (try dsimp only at hSw)
          go_simp
          try with_reducible rfl
        try simp only [Act.put, qa6, qb6, qc6, qd6, qe6, qf6]
        refine wpAnyH_take (i := 19) (v := ?_) rfl (by kernel_rfl) (by kernel_rfl) (by kernel_rfl) (fun _ _ _ h => h) (Or.inl ⟨by kernel_rfl, ?y19⟩) (by assumption) ?_
        case y19 =>
          intro w0 hSw
          (try dsimp only at hSw)
          go_simp
          try with_reducible rfl
        try simp only [Act.put, qa6, qb6, qc6, qd6, qe6, qf6]
        refine wpAnyH_done (by kernel_rfl) ?_ _
        go_wp2
        go_ret
        exact ⟨by rw [HF'.out]; rfl, HB1.out.trans (g12.mono HB1.out.size)⟩
end Go.Proofs.YtgocoofcelggcaaGreatDoor
namespace Go.Proofs.YtgocoofcelggcaaGreatDoor
open Go.RowKit
set_option linter.unusedVariables false
set_option linter.unusedSimpArgs false

theorem run_Add64 (x y : Int) (hx : 0 ≤ x) (hy : 0 ≤ y) (w : World) : (callFunc 130 #[.int .u64 x, .int .u64 y, .int .u64 0]).run Tryz.prog w =
    .ok (.value (.tuple #[.int .u64 ((x + y) % 18446744073709551616), .int .u64 ((x + y) / 18446744073709551616)])) w := by
  rw [run_callFunc_extern Tryz.func130 (by kernel_rfl) (by kernel_rfl) (by kernel_rfl) (e := add64Entry) (by kernel_rfl), run_add64 x y 0 hx hy (by omega) (by omega)]
  simp only [Result.andThen, Int.add_zero]

theorem both_any (a b : Int) (w : World) (ha : a ≠ -9223372036854775808) (hb : b ≠ -9223372036854775808) : Calls Tryz.prog 101 #[.int .i64 a, .int .i64 b] w fun e w' => e = .returned (.int .i64 0) ∧ w = w' := by
  have h1 : (a == -9223372036854775808) = false := by simpa using ha
  have h2 : (b == -9223372036854775808) = false := by simpa using hb
  clear ha hb
  go_enter Tryz.func101, Tryz.ntmps101
  go_wp2
  go_ret
  exact ⟨rfl, rfl⟩

/-- Two amounts of 0 or more. -/
theorem Add_up (a b : Int) (w : World) (ha : 0 ≤ a) (ha' : a ≤ 9223372036854775807) (hb : 0 ≤ b) (hb' : b ≤ 9223372036854775807) :
    Calls Tryz.prog 76 #[.int .i64 a, .int .i64 b] w fun e w' => e = .returned (if a + b ≤ 9223372036854775807 then .tuple #[.int .i64 (a + b), .int .i64 0] else .tuple #[.int .i64 0, .int .i64 11]) ∧ w = w' := by
  have hbo := both_any a b w (by omega) (by omega)
  have hd1 : decide (a < 0) = false := decide_eq_false (by omega)
  have hd2 : decide (b < 0) = false := decide_eq_false (by omega)
  by_cases h : a + b ≤ 9223372036854775807
  · rw [if_pos h]
    have hw : IntKind.i64.wrap (a + b) = a + b := IntWalk.i64_in _ (by omega)
    have h1 : (a + b == -9223372036854775808) = false := by rw [beq_eq_false_iff_ne]; omega
    have h2 : decide (a + b < 0) = false := decide_eq_false (by omega)
    clear h
    go_enter Tryz.func76, Tryz.ntmps76
    go_wp2_with (go_at_call 101; refine hbo.mono ?_; rintro e w' ⟨rfl, rfl⟩)
    go_ret2
    exact ⟨rfl, rfl⟩
  · rw [if_neg h]
    have hw : IntKind.i64.wrap (a + b) = a + b - 18446744073709551616 := by rw [IntKind.wrap_i64]; omega
    have hw' : wrap64 (a + b) = a + b - 18446744073709551616 := by unfold wrap64; omega
    by_cases hmin : a + b - 18446744073709551616 = -9223372036854775808
    · have h1 : (a + b - 18446744073709551616 == -9223372036854775808) = true := by rw [beq_iff_eq]; exact hmin
      clear h hmin
      go_enter Tryz.func76, Tryz.ntmps76
      go_wp2_with (go_at_call 101; refine hbo.mono ?_; rintro e w' ⟨rfl, rfl⟩)
      go_ret2
      exact ⟨rfl, rfl⟩
    · have h1 : (a + b - 18446744073709551616 == -9223372036854775808) = false := by rw [beq_eq_false_iff_ne]; exact hmin
      have h2 : decide (a + b - 18446744073709551616 < 0) = true := decide_eq_true (by omega)
      clear h hmin
      go_enter Tryz.func76, Tryz.ntmps76
      go_wp2_with (go_at_call 101; refine hbo.mono ?_; rintro e w' ⟨rfl, rfl⟩)
      go_ret2
      exact ⟨rfl, rfl⟩

/-! ### Sum -/
theorem sum_step (H L x T : Int) (hL0 : 0 ≤ L) (hL1 : L < 18446744073709551616) (hx : -9223372036854775808 < x ∧ x ≤ 9223372036854775807) (hs : H * 18446744073709551616 + L = T) (h1 : -9223372036854775808 * 1048576 ≤ T) (h2 : T ≤ 9223372036854775808 * 1048576) :
    wrap64 (H + wrap64 (x / 9223372036854775808 + wrap64 ((L + IntKind.u64.wrap x) / 18446744073709551616))) * 18446744073709551616 + (L + IntKind.u64.wrap x) % 18446744073709551616 = T + x := by
  rw [IntKind.wrap_u64]
  have hb : -1048577 ≤ H ∧ H ≤ 1048577 := by omega
  have fin : ∀ d q m : Int, (d = -1 ∨ d = 0) → (q = 0 ∨ q = 1) → H + d + q = H + d + q → wrap64 (H + wrap64 (d + wrap64 q)) = H + d + q := fun d q m hd hq _ => by
    have e1 : wrap64 q = q := by unfold wrap64; omega
    have e2 : wrap64 (d + q) = d + q := by unfold wrap64; omega
    rw [e1, e2]
    unfold wrap64
    omega
  rcases Int.lt_or_le x 0 with hn | hn
  · have hU : x % 18446744073709551616 = x + 18446744073709551616 := by omega
    have hd : x / 9223372036854775808 = -1 := by omega
    rw [hU, hd]
    have hq : (L + (x + 18446744073709551616)) / 18446744073709551616 = 0 ∨ (L + (x + 18446744073709551616)) / 18446744073709551616 = 1 := by omega
    rw [fin _ _ 0 (.inl rfl) hq rfl]
    omega
  · have hU : x % 18446744073709551616 = x := by omega
    have hd : x / 9223372036854775808 = 0 := by omega
    rw [hU, hd]
    have hq : (L + x) / 18446744073709551616 = 0 ∨ (L + x) / 18446744073709551616 = 1 := by omega
    rw [fin _ _ 0 (.inr rfl) hq rfl]
    omega
theorem u64_ok (L x : Int) : 0 ≤ (L + IntKind.u64.wrap x) % 18446744073709551616 ∧ (L + IntKind.u64.wrap x) % 18446744073709551616 < 18446744073709551616 := by omega

structure NumInv (l : List Int) (i : Value) (k : Nat) : Prop where
  le : k ≤ l.length
  at_ : i = .int .i64 (k : Int)
structure SumInv (l : List Int) (h lo i : Value) (k : Nat) : Prop where
  le : k ≤ l.length
  at_ : i = .int .i64 (k : Int)
  sum : ∃ H L : Int, h = .int .i64 H ∧ lo = .int .u64 L ∧ 0 ≤ L ∧ L < 18446744073709551616 ∧ H * 18446744073709551616 + L = (l.take k).sum

theorem sum_bound (l : List Int) (hb : ∀ x ∈ l, -9223372036854775808 < x ∧ x ≤ 9223372036854775807) : ∀ k, -9223372036854775808 * ((l.take k).length : Int) ≤ (l.take k).sum ∧ (l.take k).sum ≤ 9223372036854775807 * ((l.take k).length : Int) := by
  intro k
  induction l generalizing k with
  | nil => simp
  | cons x r ih =>
    cases k with
    | zero => simp
    | succ k =>
      have h1 := hb x (by simp)
      have h2 := ih (fun y hy => hb y (by simp [hy])) k
      simp only [List.take_succ_cons, List.sum_cons, List.length_cons]
      omega
theorem take_sum (l : List Int) (k : Nat) (h : k < l.length) : (l.take (k + 1)).sum = (l.take k).sum + l[k] := by
  rw [List.take_succ_eq_append_getElem h, List.sum_append]
  simp

def sumV (t : Int) : Value := if -9223372036854775807 ≤ t ∧ t ≤ 9223372036854775807 then .tuple #[.int .i64 t, .int .i64 0] else .tuple #[.int .i64 0, .int .i64 11]

set_option maxRecDepth 100000 in
set_option maxHeartbeats 2000000 in
theorem Sum_any (R : Nat → Prop) (v : Value) (l : List Int) (w : World) (hl : l.length ≤ 1048576) (hL : RowAt w R 1 v (l.map fun a => [.int .i64 a])) (hb : ∀ x ∈ l, -9223372036854775808 < x ∧ x ≤ 9223372036854775807) :
    Calls Tryz.prog 96 #[v] w fun e w' => e = .returned (sumV l.sum) ∧ w = w' := by
  obtain ⟨A, c, hv, hcl⟩ := hL
  rw [List.length_map] at hv
  subst hv
  have HC := Lib.hid hcl
  have HB := Lib.hid hb
  clear hcl hb
  obtain ⟨SV, hSV⟩ : ∃ SV, SV = sumV l.sum := ⟨_, rfl⟩
  rw [← hSV]
  have HSV := Lib.hid hSV
  clear hSV
  have radd := run_Add64
  go_enter Tryz.func96, Tryz.ntmps96
  go_wp2
  go_loop [14] (fun i => ∃ k, NumInv l i k) (fun i => l.length - (intOf i).toNat)
  case atStart => exact ⟨0, Nat.zero_le _, rfl⟩
  case round =>
    obtain ⟨k, hk, rfl⟩ := hrel
    by_cases hlt : k < l.length
    · obtain ⟨ad, rfl, hab, _, hcs⟩ := HC.out k (by rw [List.length_map]; exact hlt)
      rw [List.getElem_map, Nat.mul_one] at hcs
      have c0 := hcs 0 _ rfl
      have hx := HB.out _ (List.getElem_mem hlt)
      have c0' : w.cell? (ad.add k) = some (.int .i64 l[k]) := c0
      generalize l[k] = x at *
      have hn : (x == -9223372036854775808) = false := by rw [beq_eq_false_iff_ne]; omega
      clear hcs c0
      go_wp2
      go_round
      case rel => exact ⟨k + 1, by omega, by go_num⟩
      case measure => simp [intOf]; omega
    · go_wp2
      go_loop [4, 5, 23] (fun h lo i => ∃ k, SumInv l h lo i k) (fun _ _ i => l.length - (intOf i).toNat)
      case atStart => exact ⟨0, Nat.zero_le _, rfl, 0, 0, rfl, rfl, by omega, by omega, by simp⟩
      case round =>
        obtain ⟨j, hj, rfl, H, L, rfl, rfl, hL0, hL1, hsum⟩ := hrel
        by_cases hlj : j < l.length
        · obtain ⟨ad, rfl, hab, _, hcs⟩ := HC.out j (by rw [List.length_map]; exact hlj)
          rw [List.getElem_map, Nat.mul_one] at hcs
          have c0 := hcs 0 _ rfl
          have hx := HB.out _ (List.getElem_mem hlj)
          have hts := take_sum l j hlj
          have c0' : w.cell? (ad.add j) = some (.int .i64 l[j]) := c0
          obtain ⟨x, hxe⟩ : ∃ x, x = l[j] := ⟨_, rfl⟩
          rw [← hxe] at c0' hx hts
          clear hcs c0 hxe
          go_wp2
          go_roundw
          case rel =>
            have hbd := sum_bound l HB.out j
            have hlen : ((l.take j).length : Int) ≤ 1048576 := by rw [List.length_take]; omega
            exact ⟨j + 1, by omega, by go_num, _, _, rfl, rfl, (u64_ok L x).1, (u64_ok L x).2, (sum_step H L x _ hL0 hL1 hx hsum (by omega) (by omega)).trans hts.symm⟩
          case measure => simp [intOf]; omega
        · obtain rfl : j = l.length := by omega
          rw [List.take_length] at hsum
          have hbd := sum_bound l HB.out l.length
          rw [List.take_length] at hbd
          obtain ⟨T, hT⟩ : ∃ T, T = l.sum := ⟨_, rfl⟩
          rw [← hT] at hsum hbd
          by_cases hf : -9223372036854775807 ≤ T ∧ T ≤ 9223372036854775807
          · have HR := Lib.hid (show SV = .tuple #[.int .i64 T, .int .i64 0] by rw [HSV.out, ← hT]; unfold sumV; rw [if_pos hf])
            have hw : IntKind.i64.wrap L = T := by rw [IntKind.wrap_i64]; omega
            have hw2 : wrap64 L = T := by unfold wrap64; omega
            have h1 : (H != T / 9223372036854775808) = false := by rw [bne_eq_false_iff_eq]; omega
            have h2 : (T == -9223372036854775808) = false := by rw [beq_eq_false_iff_ne]; omega
            clear hsum hbd hf hT
            go_wp2
            go_ret2
            exact ⟨by rw [HR.out]; rfl, rfl⟩
          · have HR := Lib.hid (show SV = .tuple #[.int .i64 0, .int .i64 11] by rw [HSV.out, ← hT]; unfold sumV; rw [if_neg hf])
            obtain ⟨C, hC⟩ : ∃ C, C = wrap64 L := ⟨_, rfl⟩
            have hw : IntKind.i64.wrap L = C := by rw [hC]; exact IntWalk.i64_left L
            have hw2 : wrap64 L = C := hC.symm
            unfold wrap64 at hC
            by_cases hh : H = C / 9223372036854775808
            · have h1 : (H != C / 9223372036854775808) = false := by rw [bne_eq_false_iff_eq]; exact hh
              have h2 : (C == -9223372036854775808) = true := by rw [beq_iff_eq]; omega
              clear hsum hbd hf hT hh hC
              go_wp2
              go_ret2
              exact ⟨by rw [HR.out]; rfl, rfl⟩
            · have h1 : (H != C / 9223372036854775808) = true := by rw [bne_iff_ne]; exact hh
              clear hsum hbd hf hT hh hC
              go_wp2
              go_ret2
              exact ⟨by rw [HR.out]; rfl, rfl⟩
end Go.Proofs.YtgocoofcelggcaaGreatDoor
namespace Go.Proofs.YtgocoofcelggcaaGreatDoor
open Go.RowKit
set_option linter.unusedVariables false
set_option linter.unusedSimpArgs false

/-- A row of accounts lies at a block's start. -/
structure RowA (w : World) (b : Nat) (L : List Acct) : Prop where
  lt : b < w.heap.size
  c0 : ∀ j (hj : j < L.length), w.cell? ⟨b, j * 4, none⟩ = some (.string L[j].name)
  c1 : ∀ j (hj : j < L.length), w.cell? ⟨b, j * 4 + 1, none⟩ = some (.int .i64 L[j].typ)
  c2 : ∀ j (hj : j < L.length), w.cell? ⟨b, j * 4 + 2, none⟩ = some (.int .i64 L[j].opened)
  c3 : ∀ j (hj : j < L.length), w.cell? ⟨b, j * 4 + 3, none⟩ = some (.bool L[j].closed)

theorem RowA.below {w w' : World} {b : Nat} {L : List Acct} (h : RowA w b L) (hb : Below w.heap.size w w') : RowA w' b L where
  lt := Nat.lt_of_lt_of_le h.lt hb.size
  c0 := fun j hj => (hb.cell (p := ⟨b, j * 4, none⟩) h.lt).trans (h.c0 j hj)
  c1 := fun j hj => (hb.cell (p := ⟨b, j * 4 + 1, none⟩) h.lt).trans (h.c1 j hj)
  c2 := fun j hj => (hb.cell (p := ⟨b, j * 4 + 2, none⟩) h.lt).trans (h.c2 j hj)
  c3 := fun j hj => (hb.cell (p := ⟨b, j * 4 + 3, none⟩) h.lt).trans (h.c3 j hj)

/-- The list's next account fits behind those ahead of it. -/
theorem take_fits {L : List Acct} (hv : Valid L) (k : Nat) (hk : k < L.length) :
    CanAdd (L.take k) L[k] ∧ insA L[k] (L.take k) = L.take (k + 1) ∧
    ∀ u, parentF L[k].name = some u → ∃ p ∈ L.take k, findA (L.take k) u = some p ∧ p.name = u ∧ p.typ = L[k].typ ∧ p.opened ≤ L[k].opened ∧ (p.closed = true → L[k].closed = true) := by
  have hle := hv.le
  have hmem : L[k] ∈ L := List.getElem_mem hk
  have hr : Rising (L.take k) := List.Pairwise.sublist (List.take_sublist k L) hv.rising
  have hlt : ∀ b ∈ L.take k, cmpB b.name L[k].name < 0 := fun b hb => by
    obtain ⟨j, hj, rfl⟩ := List.getElem_of_mem hb
    have hj' : j < k := by simp at hj; omega
    rw [List.getElem_take]
    exact rising_get hv.rising hk hj'
  have hup : ∀ u, parentF L[k].name = some u → ∃ p ∈ L.take k, p.name = u ∧ p.typ = L[k].typ ∧ p.opened ≤ L[k].opened ∧ (p.closed = true → L[k].closed = true) := fun u hu => by
    obtain ⟨p, hp, rfl, h1, h2, h3⟩ := hv.up _ hmem u hu
    refine ⟨p, ?_, rfl, h1, h2, h3⟩
    obtain ⟨j, hj, rfl⟩ := List.getElem_of_mem hp
    have hb := parent_below hu
    rcases Nat.lt_trichotomy j k with h | h | h
    · rw [List.mem_take_iff_getElem]
      exact ⟨j, by omega, rfl⟩
    · subst h; rw [cmp_self] at hb; omega
    · have := rising_get hv.rising hj h
      have := cmp_trans hb this
      rw [cmp_self] at this; omega
  have hnone : findA (L.take k) L[k].name = none := by
    unfold findA
    rw [List.find?_eq_none]
    intro b hb
    simpa using cmp_ne (hlt b hb)
  refine ⟨{ rising := hr, none_ := hnone, room := by simp; omega, up := fun u hu => ?_, nokid := fun b hb e => ?_, self := fun e => by have := parent_size e; omega, size := by have := hv.size hmem; omega }, ?_, fun u hu => ?_⟩
  · obtain ⟨p, hp, e, _⟩ := hup u hu
    exact ⟨p, hp, e⟩
  · have h1 := parent_below e
    have h2 := cmp_trans h1 (hlt b hb)
    rw [cmp_self] at h2; omega
  · have hl : (L.take k).length = k := by simp; omega
    rw [insA_at L[k] (L.take k) k (by omega) (fun j hj _ => hlt _ (List.getElem_mem hj)) (fun j hj h => by omega)]
    rw [List.take_of_length_le (by omega), List.drop_eq_nil_of_le (by omega), List.take_succ_eq_append_getElem hk]
  · obtain ⟨p, hp, e, h1, h2, h3⟩ := hup u hu
    exact ⟨p, hp, by rw [← e]; exact find_mem hr hp, e, h1, h2, h3⟩

theorem less_of_cmp {a b : ByteArray} (h : cmpB a b < 0) : Op.bytesLess a.toList b.toList = true := by
  have key : ∀ x y : List UInt8, Lib.compareBytes x y < 0 → Op.bytesLess x y = true := by
    intro x
    induction x with
    | nil =>
      intro y h
      cases y with
      | nil => simp [Lib.compareBytes] at h
      | cons c r => rfl
    | cons c r ih =>
      intro y h
      cases y with
      | nil => simp [Lib.compareBytes] at h
      | cons d q =>
        unfold Lib.compareBytes at h
        unfold Op.bytesLess
        by_cases h1 : c < d
        · simp [h1]
        · by_cases h2 : d < c
          · simp [h1, h2] at h
          · have e : c = d := by
              apply UInt8.toNat_inj.1
              simp [UInt8.lt_iff_toNat_lt] at h1 h2
              omega
            subst e
            simp at h
            simp [ih q h]
  rw [Lib.toList_data, Lib.toList_data]
  exact key _ _ h

end Go.Proofs.YtgocoofcelggcaaGreatDoor
namespace Go.Proofs.YtgocoofcelggcaaGreatDoor
open Go.RowKit Go.Shelf Go.Lib Go.Sort
set_option linter.unusedVariables false
set_option linter.unusedSimpArgs false

instance : Inhabited Acct := ⟨noA⟩
/-- An account's cells. -/
def encA (a : Acct) : List Value := [.string a.name, .int .i64 a.typ, .int .i64 a.opened, .bool a.closed]
def cfA (a b : Acct) : Int := cmpB a.name b.name

theorem ltA (a b : Acct) : ltOf cfA a b = decide (cmpB a.name b.name < 0) := rfl
theorem cmp_neg_trans {a b c : ByteArray} (h1 : ¬ cmpB a b < 0) (h2 : ¬ cmpB b c < 0) : ¬ cmpB a c < 0 := by
  intro h
  by_cases e1 : a = b
  · subst e1; exact h2 h
  · rcases cmp_total e1 with h3 | h3
    · exact h1 h3
    · exact h2 (cmp_trans h3 h)
theorem swoA : SWO (ltOf cfA) where
  irrefl x := by rw [ltA, cmp_self]; rfl
  trans x y z h1 h2 := by rw [ltA] at *; simp only [decide_eq_true_eq] at *; exact cmp_trans h1 h2
  ntrans x y z h1 h2 := by rw [ltA] at *; simp only [decide_eq_false_iff_not] at *; exact cmp_neg_trans h1 h2

theorem isAggA (w : World) : (isAgg 65).run Tryz.prog w = .ok true w := by kernel_rfl
theorem sizeOfA (w : World) : (Go.sizeOf 65).run Tryz.prog w = .ok 4 w := by kernel_rfl

set_option maxHeartbeats 1000000 in
/-- The comparison of two accounts: in whatever world; two blocks are laid. -/
theorem accCmp (x y : Acct) (W : World) : Calls Tryz.prog 49 #[.agg #[.string x.name, .int .i64 x.typ, .int .i64 x.opened, .bool x.closed], .agg #[.string y.name, .int .i64 y.typ, .int .i64 y.opened, .bool y.closed]] W fun e w' => e = .returned (.int .i64 (cmpB x.name y.name)) ∧ ∃ q os', w' = grow (W.drewN q) os' := by
  have hcon := fun W' => Tryz.strings_Compare x.name y.name W'
  unfold cmpB
  generalize Lib.compareBytes x.name.data.toList y.name.data.toList = r at hcon ⊢
  go_enter Tryz.func49, Tryz.ntmps49
  go_wp2_with (go_at_call 50; refine (hcon _).mono ?_; rintro e w' ⟨rfl, rfl⟩)
  go_ret
  exact ⟨rfl, 0, _, by rw [alloc_eq_grow, alloc_eq_grow, grow_grow]; rfl⟩

theorem ch_sortWorld (enc : Acct → List Value) (k : Nat) (w : World) (blk off n : Nat) (d : Array Acct) (os : Array Obj) : Ch (fun i => i = blk) w (sortWorldK enc k w blk off n d os) := by
  unfold sortWorldK
  have h1 : Ch (fun i => i = blk) w (putRowK enc k (Sort.ahead w n) blk off d) := by
    refine ⟨rfl, rfl, rfl, ?_, fun i hi hn => ?_⟩
    · simp [putRowK, putRow, mapBlock, Sort.ahead]
    · simp [putRowK, putRow, mapBlock, Sort.ahead, Array.getElem?_modify, Ne.symm hn]
  exact h1.trans' ⟨rfl, rfl, rfl, by simp, fun i hi _ => by simp [grow, Array.getElem?_append, hi]⟩

theorem sorted_list {L l : List Acct} (hp : l.Perm L) (hL : Rising L) {d' : Array Acct} (h1 : PermIn 0 l.length l.toArray d') (h2 : SortedIn (ltOf cfA) 0 l.length d') : d'.toList = L := by
  obtain ⟨hsz, _, hperm⟩ := h1
  have hls : l.toArray.size = l.length := by simp
  have e1 : d'.extract 0 l.length = d' := by rw [← hls, ← hsz]; exact Array.extract_size
  have e2 : l.toArray.extract 0 l.length = l.toArray := by rw [← hls]; exact Array.extract_size
  rw [e1, e2] at hperm
  have hp' : d'.toList.Perm L := hperm.trans hp
  refine rising_unique hp' hL ?_
  unfold Rising
  rw [List.pairwise_iff_getElem]
  intro i j hi hj hij
  have hi' : i < d'.size := by simpa using hi
  have hj' : j < d'.size := by simpa using hj
  have h := h2 i j (Nat.zero_le _) hij (by omega)
  rw [getElem!_pos d' j hj', getElem!_pos d' i hi', ltA] at h
  have hne : d'.toList[i].name ≠ d'.toList[j].name := fun e => by
    have := hL.inj (hp'.subset (List.getElem_mem hi)) (hp'.subset (List.getElem_mem hj)) e
    have hnd : d'.toList.Nodup := hp'.symm.nodup hL.nodup
    exact List.pairwise_iff_getElem.1 hnd i j hi hj hij this
  rcases cmp_total hne with h3 | h3
  · exact h3
  · simp only [decide_eq_false_iff_not] at h
    exact absurd h3 h

/-- The accounts of a row sorted: the list of accounts by rising name. -/
theorem sort_acc {L l : List Acct} (hp : l.Perm L) (hL : Rising L) (hle : L.length ≤ 100) (blk cap : Nat) (w : World) (hrow : RowA w blk l) (hfr : ∀ i, w.frozen? ⟨blk, i, none⟩ = false) :
    Calls Tryz.prog 48 #[.slice (some ⟨blk, 0, none⟩) l.length cap, .func (.func 49) #[] #[]] w fun e w' => e = .returned (.tuple #[]) ∧ RowA w' blk L ∧ Ch (fun i => i = blk) w w' := by
  have eg : ∀ args w, (callFunc 49 args).run Tryz.prog w = .ok (.enter 49 args) w := enters_of Tryz.func49 (by kernel_rfl) rfl
  have hH : HoldsK encA 4 w blk 0 l.toArray := by
    intro t ht
    have ht' : t < l.length * 4 := by simpa using ht
    refine ⟨?_, hfr _⟩
    rw [get_flatK encA 4 l.toArray t (by simpa using ht')]
    have hj : t / 4 < l.length := by omega
    rw [getElem!_pos l.toArray (t / 4) (by simpa using hj)]
    have e : 0 + t = t / 4 * 4 + t % 4 := by omega
    rw [e]
    have h4 : t % 4 = 0 ∨ t % 4 = 1 ∨ t % 4 = 2 ∨ t % 4 = 3 := by omega
    rcases h4 with h | h | h | h
    · rw [h]; exact hrow.c0 _ hj
    · rw [h]; exact hrow.c1 _ hj
    · rw [h]; exact hrow.c2 _ hj
    · rw [h]; exact hrow.c3 _ hj
  have hlen := hp.length_eq
  have h := AnyQ.slices_SortFunc Tryz.sortAcc 4 isAggA sizeOfA encA (fun _ => rfl) (fun x v hv => by simp [encA] at hv; rcases hv with rfl | rfl | rfl | rfl <;> rfl) cfA swoA 49 #[] blk 0 cap l.toArray w eg (fun _ _ _ _ x y => accCmp x y _) hH hrow.lt (by simp; omega)
  have hsz : l.toArray.size = l.length := by simp
  rw [hsz] at h
  refine h.mono ?_
  rintro e w' ⟨rfl, d', n, os, h1, h2, rfl⟩
  refine ⟨rfl, ?_, ch_sortWorld _ _ _ _ _ _ _ _⟩
  have hd := sorted_list hp hL h1 h2
  have hds : d'.size = L.length := by rw [← hd]; simp
  have hh := holdsK_sortWorldK_c encA 4 w blk 0 l.toArray d' n os hH hrow.lt (by rw [hds]; simp [hlen])
  have hc : ∀ j (hj : j < L.length) c v, (encA L[j])[c]? = some v → (sortWorldK encA 4 w blk 0 n d' os).cell? ⟨blk, j * 4 + c, none⟩ = some v := fun j hj c v hv => by
    have := HoldsK.cells hh (fun _ => rfl) (i := j) (by omega) c v (by rw [getElem!_pos d' j (by omega)]; subst hd; simpa using hv)
    rw [Addr.add_lit] at this
    simpa using this
  exact ⟨Nat.lt_of_lt_of_le hrow.lt (ch_sortWorld encA 4 w blk 0 n d' os).size, fun j hj => hc j hj 0 _ rfl, fun j hj => hc j hj 1 _ rfl, fun j hj => hc j hj 2 _ rfl, fun j hj => hc j hj 3 _ rfl⟩
end Go.Proofs.YtgocoofcelggcaaGreatDoor
