/- Open of a chart. -/
import Derived.Test.YthbiepgpflpfoaaDoorAdds
import Derived.Test.YthbiepgpflpfoaaDoorValid
import Derived.Test.YthbiepgpflpfoaaDoorMay
namespace Go.Proofs.YthbiepgpflpfoaaDoor
open Go.RowKit
set_option linter.unusedVariables false
set_option linter.unusedSimpArgs false

theorem run_len_strmap {P : Program} {w : World} {b : Nat} {ps : List (ByteArray × Value)} (h : StrMap w b ps) {T K E : TypeId} (hT : P.underlying T = some (.map K E)) (ty : TypeId) :
    Sem.run P (Builtin.len_ #[T] ty #[.map (some b)]) w = .ok (.int .i64 ps.length) w := by
  obtain ⟨es, c, h1, h2⟩ := h
  have hl : es.size = ps.length := by have := congrArg List.length h2; simpa using this
  unfold Builtin.len_
  simp [run_underlying hT, MapKept.run_getObj_map h1, hl, goInt, Result.andThen]

set_option maxRecDepth 100000 in
theorem isDay_any (n : Int) (w : World) : Calls Tryd.prog 28 #[.int .i64 n] w fun e w' => e = .returned (.bool (decide (1 ≤ n ∧ n ≤ 3652059))) ∧ w' = w := by
  by_cases h1 : 1 ≤ n
  · by_cases h2 : n ≤ 3652059
    · go_enter Tryd.func28, Tryd.ntmps28
      go_wp2
      go_ret
      exact ⟨ret_bool (by simp [h1, h2]), rfl⟩
    · go_enter Tryd.func28, Tryd.ntmps28
      go_wp2
      go_ret
      exact ⟨ret_bool (by simp [h1, h2]), rfl⟩
  · go_enter Tryd.func28, Tryd.ntmps28
    go_wp2
    go_ret
    exact ⟨ret_bool (by simp; omega), rfl⟩

set_option maxRecDepth 100000 in
set_option maxHeartbeats 1000000 in
theorem Open_path (cb mb : Nat) (name : ByteArray) (typ day : Int) (w : World) (hsz : name.size ≤ 140737488355328) (hc0 : ∀ W : World, Below w.heap.size w W → W.cell? ⟨cb, 0, none⟩ = some (.map (some mb))) (hgood : goodB name.data.toList = false) :
    Calls Tryd.prog 12 #[.pointer (some ⟨cb, 0, none⟩), .string name, .int .i64 typ, .int .i64 day] w fun e w' => e = .returned (.int .i64 60) ∧ Below w.heap.size w w' := by
  have hp := Parent_any name w hsz
  have hg := fun W => Good_any name W (by unfold maxLen; omega)
  have hdd := fun W => isDay_any day W
  rw [hgood] at hg
  go_enter Tryd.func12, Tryd.ntmps12
  go_wp2_with (first | (go_at_call 10; refine hp.mono ?_; rintro e W1 ⟨rfl, hb1⟩) | (go_at_call 27; refine (hg _).mono ?_; rintro e W2 ⟨rfl, hb2⟩; have hB2 := hb1.trans (hb2.mono hb1.size)))
  go_ret
  exact ⟨rfl, hB2⟩

set_option maxRecDepth 100000 in
set_option maxHeartbeats 1000000 in
theorem Open_day (cb mb : Nat) (name : ByteArray) (typ day : Int) (w : World) (hsz : name.size ≤ 140737488355328) (hc0 : ∀ W : World, Below w.heap.size w W → W.cell? ⟨cb, 0, none⟩ = some (.map (some mb))) (hgood : goodB name.data.toList = true) (hday : ¬ (1 ≤ day ∧ day ≤ 3652059)) :
    Calls Tryd.prog 12 #[.pointer (some ⟨cb, 0, none⟩), .string name, .int .i64 typ, .int .i64 day] w fun e w' => e = .returned (.int .i64 1) ∧ Below w.heap.size w w' := by
  have hp := Parent_any name w hsz
  have hg := fun W => Good_any name W (by unfold maxLen; omega)
  have hdd := fun W => isDay_any day W
  rw [hgood] at hg
  have hd : decide (1 ≤ day ∧ day ≤ 3652059) = false := by simp [hday]
  rw [hd] at hdd
  clear hd
  clear hday
  go_enter Tryd.func12, Tryd.ntmps12
  go_wp2_with (first | (go_at_call 10; refine hp.mono ?_; rintro e W1 ⟨rfl, hb1⟩) | (go_at_call 27; refine (hg _).mono ?_; rintro e W2 ⟨rfl, hb2⟩; have hB2 := hb1.trans (hb2.mono hb1.size)) | (go_at_call 28; refine (hdd _).mono ?_; rintro e w' ⟨rfl, rfl⟩))
  go_ret
  exact ⟨rfl, hB2⟩

set_option maxRecDepth 100000 in
set_option maxHeartbeats 1000000 in
theorem Open_low (cb mb : Nat) (name : ByteArray) (typ day : Int) (w : World) (hsz : name.size ≤ 140737488355328) (hc0 : ∀ W : World, Below w.heap.size w W → W.cell? ⟨cb, 0, none⟩ = some (.map (some mb))) (hgood : goodB name.data.toList = true) (hday : 1 ≤ day ∧ day ≤ 3652059) (ht : typ < 0) :
    Calls Tryd.prog 12 #[.pointer (some ⟨cb, 0, none⟩), .string name, .int .i64 typ, .int .i64 day] w fun e w' => e = .returned (.int .i64 1) ∧ Below w.heap.size w w' := by
  have hp := Parent_any name w hsz
  have hg := fun W => Good_any name W (by unfold maxLen; omega)
  have hdd := fun W => isDay_any day W
  rw [hgood] at hg
  have hd : decide (1 ≤ day ∧ day ≤ 3652059) = true := by simp [hday]
  rw [hd] at hdd
  clear hd
  clear hday
  go_enter Tryd.func12, Tryd.ntmps12
  go_wp2_with (first | (go_at_call 10; refine hp.mono ?_; rintro e W1 ⟨rfl, hb1⟩) | (go_at_call 27; refine (hg _).mono ?_; rintro e W2 ⟨rfl, hb2⟩; have hB2 := hb1.trans (hb2.mono hb1.size)) | (go_at_call 28; refine (hdd _).mono ?_; rintro e w' ⟨rfl, rfl⟩))
  go_ret
  exact ⟨rfl, hB2⟩

set_option maxRecDepth 100000 in
set_option maxHeartbeats 1000000 in
theorem Open_high (cb mb : Nat) (name : ByteArray) (typ day : Int) (w : World) (hsz : name.size ≤ 140737488355328) (hc0 : ∀ W : World, Below w.heap.size w W → W.cell? ⟨cb, 0, none⟩ = some (.map (some mb))) (hgood : goodB name.data.toList = true) (hday : 1 ≤ day ∧ day ≤ 3652059) (ht0 : 0 ≤ typ) (ht : 5 < typ) :
    Calls Tryd.prog 12 #[.pointer (some ⟨cb, 0, none⟩), .string name, .int .i64 typ, .int .i64 day] w fun e w' => e = .returned (.int .i64 1) ∧ Below w.heap.size w w' := by
  have hp := Parent_any name w hsz
  have hg := fun W => Good_any name W (by unfold maxLen; omega)
  have hdd := fun W => isDay_any day W
  rw [hgood] at hg
  have hd : decide (1 ≤ day ∧ day ≤ 3652059) = true := by simp [hday]
  rw [hd] at hdd
  clear hd
  clear hday
  go_enter Tryd.func12, Tryd.ntmps12
  go_wp2_with (first | (go_at_call 10; refine hp.mono ?_; rintro e W1 ⟨rfl, hb1⟩) | (go_at_call 27; refine (hg _).mono ?_; rintro e W2 ⟨rfl, hb2⟩; have hB2 := hb1.trans (hb2.mono hb1.size)) | (go_at_call 28; refine (hdd _).mono ?_; rintro e w' ⟨rfl, rfl⟩))
  go_ret
  exact ⟨rfl, hB2⟩

set_option maxRecDepth 100000 in
set_option maxHeartbeats 1000000 in
theorem Open_there (nb : Nat) (cb mb : Nat) (name : ByteArray) (typ day : Int) (w : World) (hsz : name.size ≤ 140737488355328) (hc0 : ∀ W : World, Below w.heap.size w W → W.cell? ⟨cb, 0, none⟩ = some (.map (some mb))) (hgood : goodB name.data.toList = true) (hday : 1 ≤ day ∧ day ≤ 3652059) (ht0 : 0 ≤ typ) (ht : typ ≤ 5) (hlk : ∀ W : World, Below w.heap.size w W → Sem.run Tryd.prog (Instr.lookup 56 (.map (some mb)) (.string name) false) W = .ok (.pointer (some ⟨nb, 0, none⟩)) W) :
    Calls Tryd.prog 12 #[.pointer (some ⟨cb, 0, none⟩), .string name, .int .i64 typ, .int .i64 day] w fun e w' => e = .returned (.int .i64 62) ∧ Below w.heap.size w w' := by
  have hp := Parent_any name w hsz
  have hg := fun W => Good_any name W (by unfold maxLen; omega)
  have hdd := fun W => isDay_any day W
  rw [hgood] at hg
  have hd : decide (1 ≤ day ∧ day ≤ 3652059) = true := by simp [hday]
  rw [hd] at hdd
  clear hd
  have HC := Lib.hid hc0
  have HL := Lib.hid hlk
  clear hc0 hlk hday
  go_enter Tryd.func12, Tryd.ntmps12
  go_wp2_with (first | (go_at_call 10; refine hp.mono ?_; rintro e W1 ⟨rfl, hb1⟩) | (go_at_call 27; refine (hg _).mono ?_; rintro e W2 ⟨rfl, hb2⟩; have hB2 := hb1.trans (hb2.mono hb1.size); have hc := HC.out W2 hB2; have hl := HL.out W2 hB2) | (go_at_call 28; refine (hdd _).mono ?_; rintro e w' ⟨rfl, rfl⟩))
  go_ret
  exact ⟨rfl, hB2⟩

set_option maxRecDepth 100000 in
set_option maxHeartbeats 1000000 in
theorem Open_many (cb mb : Nat) (name : ByteArray) (typ day : Int) (w : World) (hsz : name.size ≤ 140737488355328) (hc0 : ∀ W : World, Below w.heap.size w W → W.cell? ⟨cb, 0, none⟩ = some (.map (some mb))) (hgood : goodB name.data.toList = true) (hday : 1 ≤ day ∧ day ≤ 3652059) (ht0 : 0 ≤ typ) (ht : typ ≤ 5) (hlk : ∀ W : World, Below w.heap.size w W → Sem.run Tryd.prog (Instr.lookup 56 (.map (some mb)) (.string name) false) W = .ok (.pointer none) W) (L : List Acct) (hlen : ∀ W : World, Below w.heap.size w W → Sem.run Tryd.prog (Builtin.len_ #[56] 3 #[.map (some mb)]) W = .ok (.int .i64 L.length) W) (hL : 100 ≤ L.length) :
    Calls Tryd.prog 12 #[.pointer (some ⟨cb, 0, none⟩), .string name, .int .i64 typ, .int .i64 day] w fun e w' => e = .returned (.int .i64 2) ∧ Below w.heap.size w w' := by
  have hp := Parent_any name w hsz
  have hg := fun W => Good_any name W (by unfold maxLen; omega)
  have hdd := fun W => isDay_any day W
  rw [hgood] at hg
  have hd : decide (1 ≤ day ∧ day ≤ 3652059) = true := by simp [hday]
  rw [hd] at hdd
  clear hd
  have HC := Lib.hid hc0
  have HL := Lib.hid hlk
  have HN := Lib.hid hlen
  clear hc0 hlk hlen hday
  go_enter Tryd.func12, Tryd.ntmps12
  go_wp2_with (first | (go_at_call 10; refine hp.mono ?_; rintro e W1 ⟨rfl, hb1⟩) | (go_at_call 27; refine (hg _).mono ?_; rintro e W2 ⟨rfl, hb2⟩; have hB2 := hb1.trans (hb2.mono hb1.size); have hc := HC.out W2 hB2; have hl := HL.out W2 hB2; have hn := HN.out W2 hB2) | (go_at_call 28; refine (hdd _).mono ?_; rintro e w' ⟨rfl, rfl⟩))
  go_ret
  exact ⟨rfl, hB2⟩

set_option maxRecDepth 100000 in
set_option maxHeartbeats 1000000 in
theorem Open_root0 (cb mb : Nat) (name : ByteArray) (typ day : Int) (w : World) (hsz : name.size ≤ 140737488355328) (hc0 : ∀ W : World, Below w.heap.size w W → W.cell? ⟨cb, 0, none⟩ = some (.map (some mb))) (hgood : goodB name.data.toList = true) (hday : 1 ≤ day ∧ day ≤ 3652059) (ht : typ = 0) (hlk : ∀ W : World, Below w.heap.size w W → Sem.run Tryd.prog (Instr.lookup 56 (.map (some mb)) (.string name) false) W = .ok (.pointer none) W) (L : List Acct) (hlen : ∀ W : World, Below w.heap.size w W → Sem.run Tryd.prog (Builtin.len_ #[56] 3 #[.map (some mb)]) W = .ok (.int .i64 L.length) W) (hL : L.length ≤ 99) (hpar : parentF name = none) :
    Calls Tryd.prog 12 #[.pointer (some ⟨cb, 0, none⟩), .string name, .int .i64 typ, .int .i64 day] w fun e w' => e = .returned (.int .i64 64) ∧ Below w.heap.size w w' := by
  have hp := Parent_any name w hsz
  have hg := fun W => Good_any name W (by unfold maxLen; omega)
  have hdd := fun W => isDay_any day W
  subst ht
  rw [hgood] at hg
  rw [hpar] at hp
  have hd : decide (1 ≤ day ∧ day ≤ 3652059) = true := by simp [hday]
  rw [hd] at hdd
  clear hd
  have HC := Lib.hid hc0
  have HL := Lib.hid hlk
  have HN := Lib.hid hlen
  clear hc0 hlk hlen hday
  go_enter Tryd.func12, Tryd.ntmps12
  go_wp2_with (first | (go_at_call 10; refine hp.mono ?_; rintro e W1 ⟨rfl, hb1⟩) | (go_at_call 27; refine (hg _).mono ?_; rintro e W2 ⟨rfl, hb2⟩; have hB2 := hb1.trans (hb2.mono hb1.size); have hc := HC.out W2 hB2; have hl := HL.out W2 hB2; have hn := HN.out W2 hB2) | (go_at_call 28; refine (hdd _).mono ?_; rintro e w' ⟨rfl, rfl⟩))
  go_ret
  exact ⟨rfl, hB2⟩

set_option maxRecDepth 100000 in
set_option maxHeartbeats 1000000 in
theorem Open_kid1 (u : ByteArray) (cb mb : Nat) (name : ByteArray) (typ day : Int) (w : World) (hsz : name.size ≤ 140737488355328) (hc0 : ∀ W : World, Below w.heap.size w W → W.cell? ⟨cb, 0, none⟩ = some (.map (some mb))) (hgood : goodB name.data.toList = true) (hday : 1 ≤ day ∧ day ≤ 3652059) (ht0 : 0 ≤ typ) (ht : typ ≤ 5) (ht1 : ¬ typ = 0) (hlk : ∀ W : World, Below w.heap.size w W → Sem.run Tryd.prog (Instr.lookup 56 (.map (some mb)) (.string name) false) W = .ok (.pointer none) W) (L : List Acct) (hlen : ∀ W : World, Below w.heap.size w W → Sem.run Tryd.prog (Builtin.len_ #[56] 3 #[.map (some mb)]) W = .ok (.int .i64 L.length) W) (hL : L.length ≤ 99) (hpar : parentF name = some u) :
    Calls Tryd.prog 12 #[.pointer (some ⟨cb, 0, none⟩), .string name, .int .i64 typ, .int .i64 day] w fun e w' => e = .returned (.int .i64 64) ∧ Below w.heap.size w w' := by
  have hp := Parent_any name w hsz
  have hg := fun W => Good_any name W (by unfold maxLen; omega)
  have hdd := fun W => isDay_any day W
  rw [hgood] at hg
  rw [hpar] at hp
  have hd : decide (1 ≤ day ∧ day ≤ 3652059) = true := by simp [hday]
  rw [hd] at hdd
  clear hd
  have HC := Lib.hid hc0
  have HL := Lib.hid hlk
  have HN := Lib.hid hlen
  clear hc0 hlk hlen hday
  have hbz : (typ == (0 : Int)) = false := by simpa using ht1
  go_enter Tryd.func12, Tryd.ntmps12
  go_wp2_with (first | (go_at_call 10; refine hp.mono ?_; rintro e W1 ⟨rfl, hb1⟩) | (go_at_call 27; refine (hg _).mono ?_; rintro e W2 ⟨rfl, hb2⟩; have hB2 := hb1.trans (hb2.mono hb1.size); have hc := HC.out W2 hB2; have hl := HL.out W2 hB2; have hn := HN.out W2 hB2) | (go_at_call 28; refine (hdd _).mono ?_; rintro e w' ⟨rfl, rfl⟩))
  go_ret
  exact ⟨rfl, hB2⟩

set_option maxRecDepth 100000 in
set_option maxHeartbeats 1000000 in
theorem Open_may (u : ByteArray) (cb mb : Nat) (name : ByteArray) (typ day : Int) (w : World) (hsz : name.size ≤ 140737488355328) (hc0 : ∀ W : World, Below w.heap.size w W → W.cell? ⟨cb, 0, none⟩ = some (.map (some mb))) (hgood : goodB name.data.toList = true) (hday : 1 ≤ day ∧ day ≤ 3652059) (ht : typ = 0) (hlk : ∀ W : World, Below w.heap.size w W → Sem.run Tryd.prog (Instr.lookup 56 (.map (some mb)) (.string name) false) W = .ok (.pointer none) W) (L : List Acct) (hlen : ∀ W : World, Below w.heap.size w W → Sem.run Tryd.prog (Builtin.len_ #[56] 3 #[.map (some mb)]) W = .ok (.int .i64 L.length) W) (hL : L.length ≤ 99) (hpar : parentF name = some u) (m : Int) (hm : ∀ W : World, Below w.heap.size w W → Calls Tryd.prog 21 #[.pointer (some ⟨cb, 0, none⟩), .string u, .int .i64 day] W fun e w' => e = .returned (.int .i64 m) ∧ W = w') (hm0 : ¬ m = 0) :
    Calls Tryd.prog 12 #[.pointer (some ⟨cb, 0, none⟩), .string name, .int .i64 typ, .int .i64 day] w fun e w' => e = .returned (.int .i64 m) ∧ Below w.heap.size w w' := by
  have hp := Parent_any name w hsz
  have hg := fun W => Good_any name W (by unfold maxLen; omega)
  have hdd := fun W => isDay_any day W
  subst ht
  rw [hgood] at hg
  rw [hpar] at hp
  have hd : decide (1 ≤ day ∧ day ≤ 3652059) = true := by simp [hday]
  rw [hd] at hdd
  clear hd
  have HC := Lib.hid hc0
  have HL := Lib.hid hlk
  have HN := Lib.hid hlen
  clear hc0 hlk hlen hday
  have HM := Lib.hid hm
  clear hm
  go_enter Tryd.func12, Tryd.ntmps12
  go_wp2_with (first | (go_at_call 10; refine hp.mono ?_; rintro e W1 ⟨rfl, hb1⟩) | (go_at_call 27; refine (hg _).mono ?_; rintro e W2 ⟨rfl, hb2⟩; have hB2 := hb1.trans (hb2.mono hb1.size); have hc := HC.out W2 hB2; have hl := HL.out W2 hB2; have hn := HN.out W2 hB2; have hM := HM.out W2 hB2) | (go_at_call 28; refine (hdd _).mono ?_; rintro e w' ⟨rfl, rfl⟩) | (go_at_call 21; refine hM.mono ?_; rintro e w' ⟨rfl, rfl⟩))
  go_ret
  exact ⟨rfl, hB2⟩

set_option maxRecDepth 100000 in
set_option maxHeartbeats 1000000 in
theorem Open_root (cb mb : Nat) (name : ByteArray) (typ day : Int) (w : World) (hsz : name.size ≤ 140737488355328) (hc0 : ∀ W : World, Below w.heap.size w W → W.cell? ⟨cb, 0, none⟩ = some (.map (some mb))) (hgood : goodB name.data.toList = true) (hday : 1 ≤ day ∧ day ≤ 3652059) (ht0 : 0 ≤ typ) (ht : typ ≤ 5) (ht1 : ¬ typ = 0) (hlk : ∀ W : World, Below w.heap.size w W → Sem.run Tryd.prog (Instr.lookup 56 (.map (some mb)) (.string name) false) W = .ok (.pointer none) W) (L : List Acct) (hlen : ∀ W : World, Below w.heap.size w W → Sem.run Tryd.prog (Builtin.len_ #[56] 3 #[.map (some mb)]) W = .ok (.int .i64 L.length) W) (hL : L.length ≤ 99) (hpar : parentF name = none) (Q : Ending → World → Prop) (hadd : ∀ W : World, Below w.heap.size w W → Calls Tryd.prog 29 #[.pointer (some ⟨cb, 0, none⟩), .agg #[.string name, .int .i64 typ, .int .i64 day, .bool false]] W fun e w' => e = .returned (.tuple #[]) ∧ Q (.returned (.int .i64 0)) w') :
    Calls Tryd.prog 12 #[.pointer (some ⟨cb, 0, none⟩), .string name, .int .i64 typ, .int .i64 day] w Q := by
  have hp := Parent_any name w hsz
  have hg := fun W => Good_any name W (by unfold maxLen; omega)
  have hdd := fun W => isDay_any day W
  rw [hgood] at hg
  rw [hpar] at hp
  have hd : decide (1 ≤ day ∧ day ≤ 3652059) = true := by simp [hday]
  rw [hd] at hdd
  clear hd
  have HC := Lib.hid hc0
  have HL := Lib.hid hlk
  have HN := Lib.hid hlen
  clear hc0 hlk hlen hday
  have hbz : (typ == (0 : Int)) = false := by simpa using ht1
  have HA := Lib.hid hadd
  clear hadd
  go_enter Tryd.func12, Tryd.ntmps12
  go_wp2_with (first | (go_at_call 10; refine hp.mono ?_; rintro e W1 ⟨rfl, hb1⟩) | (go_at_call 27; refine (hg _).mono ?_; rintro e W2 ⟨rfl, hb2⟩; have hB2 := hb1.trans (hb2.mono hb1.size); have hc := HC.out W2 hB2; have hl := HL.out W2 hB2; have hn := HN.out W2 hB2; have hA := HA.out W2 hB2) | (go_at_call 28; refine (hdd _).mono ?_; rintro e w' ⟨rfl, rfl⟩) | (go_at_call 29; refine hA.mono ?_; rintro e w' ⟨rfl, hq⟩))
  exact hq

set_option maxRecDepth 100000 in
set_option maxHeartbeats 1000000 in
theorem Open_kid (u : ByteArray) (cb mb : Nat) (name : ByteArray) (typ day : Int) (w : World) (hsz : name.size ≤ 140737488355328) (hc0 : ∀ W : World, Below w.heap.size w W → W.cell? ⟨cb, 0, none⟩ = some (.map (some mb))) (hgood : goodB name.data.toList = true) (hday : 1 ≤ day ∧ day ≤ 3652059) (ht : typ = 0) (hlk : ∀ W : World, Below w.heap.size w W → Sem.run Tryd.prog (Instr.lookup 56 (.map (some mb)) (.string name) false) W = .ok (.pointer none) W) (L : List Acct) (hlen : ∀ W : World, Below w.heap.size w W → Sem.run Tryd.prog (Builtin.len_ #[56] 3 #[.map (some mb)]) W = .ok (.int .i64 L.length) W) (hL : L.length ≤ 99) (hpar : parentF name = some u) (m : Int) (hm : ∀ W : World, Below w.heap.size w W → Calls Tryd.prog 21 #[.pointer (some ⟨cb, 0, none⟩), .string u, .int .i64 day] W fun e w' => e = .returned (.int .i64 m) ∧ W = w') (hm0 : m = 0) (pb : Nat) (pt : Int) (hlu : ∀ W : World, Below w.heap.size w W → Sem.run Tryd.prog (Instr.lookup 56 (.map (some mb)) (.string u) false) W = .ok (.pointer (some ⟨pb, 0, none⟩)) W) (hpt : ∀ W : World, Below w.heap.size w W → W.cell? ⟨pb, 1, none⟩ = some (.int .i64 pt)) (Q : Ending → World → Prop) (hadd : ∀ W : World, Below w.heap.size w W → Calls Tryd.prog 29 #[.pointer (some ⟨cb, 0, none⟩), .agg #[.string name, .int .i64 pt, .int .i64 day, .bool false]] W fun e w' => e = .returned (.tuple #[]) ∧ Q (.returned (.int .i64 0)) w') :
    Calls Tryd.prog 12 #[.pointer (some ⟨cb, 0, none⟩), .string name, .int .i64 typ, .int .i64 day] w Q := by
  have hp := Parent_any name w hsz
  have hg := fun W => Good_any name W (by unfold maxLen; omega)
  have hdd := fun W => isDay_any day W
  subst ht
  subst hm0
  rw [hgood] at hg
  rw [hpar] at hp
  have hd : decide (1 ≤ day ∧ day ≤ 3652059) = true := by simp [hday]
  rw [hd] at hdd
  clear hd
  have HC := Lib.hid hc0
  have HL := Lib.hid hlk
  have HN := Lib.hid hlen
  clear hc0 hlk hlen hday
  have HM := Lib.hid hm
  clear hm
  have HA := Lib.hid hadd
  clear hadd
  have HU := Lib.hid hlu
  have HT := Lib.hid hpt
  clear hlu hpt
  go_enter Tryd.func12, Tryd.ntmps12
  go_wp2_with (first | (go_at_call 10; refine hp.mono ?_; rintro e W1 ⟨rfl, hb1⟩) | (go_at_call 27; refine (hg _).mono ?_; rintro e W2 ⟨rfl, hb2⟩; have hB2 := hb1.trans (hb2.mono hb1.size); have hc := HC.out W2 hB2; have hl := HL.out W2 hB2; have hn := HN.out W2 hB2; have hM := HM.out W2 hB2; have hA := HA.out W2 hB2; have hU := HU.out W2 hB2; have hT := HT.out W2 hB2) | (go_at_call 28; refine (hdd _).mono ?_; rintro e w' ⟨rfl, rfl⟩) | (go_at_call 21; refine hM.mono ?_; rintro e w' ⟨rfl, rfl⟩) | (go_at_call 29; refine hA.mono ?_; rintro e w' ⟨rfl, hq⟩))
  exact hq

/-- What Open answers, and the accounts behind it. -/
def openE (L : List Acct) (name : ByteArray) (typ day : Int) : Int :=
  if goodB name.data.toList = false then 60
  else if ¬ (1 ≤ day ∧ day ≤ 3652059) ∨ typ < 0 ∨ 5 < typ then 1
  else if (findA L name).isSome then 62
  else if 100 ≤ L.length then 2
  else match parentF name with
    | none => if typ = 0 then 64 else 0
    | some u => if typ = 0 then mayE L u day else 64
def openA (L : List Acct) (name : ByteArray) (typ day : Int) : Acct := ⟨name, match parentF name with | none => typ | some u => ((findA L u).getD noA).typ, day, false⟩
def openL (L : List Acct) (name : ByteArray) (typ day : Int) : List Acct := if openE L name typ day = 0 then insA (openA L name typ day) L else L

theorem may_ok {L : List Acct} {u : ByteArray} {day : Int} (h : mayE L u day = 0) : ∃ p ∈ L, findA L u = some p ∧ p.name = u ∧ p.closed = false ∧ p.opened ≤ day := by
  unfold mayE at h
  cases hf : findA L u with
  | none => rw [hf] at h; simp at h
  | some p =>
    rw [hf] at h
    simp only at h
    obtain ⟨hp, hn⟩ := findA_some hf
    cases hc : p.closed with
    | true => rw [hc] at h; simp at h
    | false =>
      rw [hc] at h
      by_cases hd : day < p.opened
      · simp [hd] at h
      · exact ⟨p, hp, rfl, hn, hc, by omega⟩

theorem open_fits {L : List Acct} (hv : Valid L) {name : ByteArray} {typ day : Int} (h : openE L name typ day = 0) : Fits L (openA L name typ day) := by
  unfold openE at h
  split at h
  · cases h
  rename_i hg
  split at h
  · cases h
  rename_i ha
  split at h
  · cases h
  rename_i hf
  split at h
  · cases h
  rename_i hl
  have hg' : goodB name.data.toList = true := by simpa using hg
  have hf' : findA L name = none := by simpa using hf
  have hday : 1 ≤ day ∧ day ≤ 3652059 := Decidable.not_not.1 fun e => ha (.inl e)
  have ht : ¬ typ < 0 ∧ ¬ 5 < typ := ⟨fun e => ha (.inr (.inl e)), fun e => ha (.inr (.inr e))⟩
  refine { none_ := hf', room := by omega, good := hg', up := ?_, day := hday, typ := ?_ }
  · intro u hu
    rw [show (openA L name typ day).name = name from rfl] at hu
    rw [hu] at h
    simp only at h
    split at h
    · obtain ⟨p, hp, hfp, hn, hc, ho⟩ := may_ok h
      refine ⟨p, hp, hn, ?_, ho, fun e => by rw [hc] at e; cases e⟩
      unfold openA
      rw [hu]
      simp [hfp]
    · cases h
  · unfold openA
    cases hu : parentF name with
    | none =>
      rw [hu] at h
      simp only at h ⊢
      split at h
      · cases h
      · omega
    | some u =>
      rw [hu] at h
      simp only at h ⊢
      split at h
      · obtain ⟨p, hp, hfp, hn, hc, ho⟩ := may_ok h
        rw [hfp]
        exact hv.typ p hp
      · cases h

theorem open_valid {L : List Acct} (hv : Valid L) (name : ByteArray) (typ day : Int) : Valid (openL L name typ day) := by
  unfold openL
  split
  · rename_i h; exact (open_fits hv h).valid hv
  · exact hv

theorem Open_any {w : World} {F : Nat → Prop} {cb : Nat} {L : List Acct} (h : ChartAt w F cb L) (hv : Valid L) (name : ByteArray) (typ day : Int) (hsz : name.size ≤ 140737488355328) :
    Calls Tryd.prog 12 #[.pointer (some ⟨cb, 0, none⟩), .string name, .int .i64 typ, .int .i64 day] w (MutPost F cb (openL L name typ day) (.int .i64 (openE L name typ day)) w) := by
  have hcat := h
  obtain ⟨mb, rv, nb, kv, ps, hcr⟩ := h
  have hkeep : ∀ W : World, Below w.heap.size w W → CR W F cb L mb rv nb kv ps := fun W hb => hcr.keep fun k _ hk => hb.block k hk
  have hc0 : ∀ W : World, Below w.heap.size w W → W.cell? ⟨cb, 0, none⟩ = some (.map (some mb)) := fun W hb => by rw [cell_of_blk (hkeep W hb).hC]; rfl
  have hlk := fun (W : World) (hb : Below w.heap.size w W) => (hkeep W hb).lookup name
  have hlen : ∀ W : World, Below w.heap.size w W → Sem.run Tryd.prog (Builtin.len_ #[56] 3 #[.map (some mb)]) W = .ok (.int .i64 L.length) W := fun W hb => by
    rw [run_len_strmap (hkeep W hb).hM Tryd.underlying56, hcr.hlen]
  have hmay : ∀ u (W : World), Below w.heap.size w W → Calls Tryd.prog 21 #[.pointer (some ⟨cb, 0, none⟩), .string u, .int .i64 day] W fun e w' => e = .returned (.int .i64 (mayE L u day)) ∧ W = w' := fun u W hb => May_any ⟨mb, rv, nb, kv, ps, hkeep W hb⟩ u day
  have same : ∀ (n : Int) (e : Ending) (w' : World), n ≠ 0 → openE L name typ day = n → (e = .returned (.int .i64 n) ∧ Below w.heap.size w w') → MutPost F cb (openL L name typ day) (.int .i64 (openE L name typ day)) w e w' := fun n e w' hn hc ⟨h1, h2⟩ => by
    unfold openL
    rw [hc, if_neg hn]
    exact ⟨h1, F, hcat.below h2, Ch.of_below h2, fun k hk => .inl hk⟩
  have hadd : openE L name typ day = 0 → ∀ (W : World), Below w.heap.size w W → Calls Tryd.prog 29 #[.pointer (some ⟨cb, 0, none⟩), .agg #[.string name, .int .i64 (openA L name typ day).typ, .int .i64 day, .bool false]] W
      fun e w' => e = .returned (.tuple #[]) ∧ MutPost F cb (openL L name typ day) (.int .i64 (openE L name typ day)) w (.returned (.int .i64 0)) w' := fun hE W hb => by
    have hfit := open_fits hv hE
    refine (add_any (hcat.below hb) (hfit.can hv)).mono ?_
    rintro e w' ⟨h1, F', h2, h3, h4⟩
    refine ⟨h1, ?_⟩
    unfold openL
    rw [hE, if_pos rfl]
    exact ⟨rfl, F', h2, (Ch.of_below hb).trans' h3, fun k hk => (h4 k hk).imp_right fun h => ⟨Nat.le_trans hb.size h.1, h.2⟩⟩
  cases hgood : goodB name.data.toList with
  | false => exact (Open_path cb mb name typ day w hsz hc0 hgood).mono fun e w' hp => same 60 e w' (by decide) (by unfold openE; rw [if_pos hgood]) hp
  | true =>
    have hE1 : openE L name typ day = if ¬ (1 ≤ day ∧ day ≤ 3652059) ∨ typ < 0 ∨ 5 < typ then 1 else if (findA L name).isSome then 62 else if 100 ≤ L.length then 2 else match parentF name with | none => if typ = 0 then 64 else 0 | some u => if typ = 0 then mayE L u day else 64 := by
      unfold openE
      rw [if_neg (by rw [hgood]; simp)]
    by_cases hday : 1 ≤ day ∧ day ≤ 3652059
    · by_cases ht0 : typ < 0
      · exact (Open_low cb mb name typ day w hsz hc0 hgood hday ht0).mono fun e w' hp => same 1 e w' (by decide) (by rw [hE1, if_pos (.inr (.inl ht0))]) hp
      · by_cases ht5 : 5 < typ
        · exact (Open_high cb mb name typ day w hsz hc0 hgood hday (by omega) ht5).mono fun e w' hp => same 1 e w' (by decide) (by rw [hE1, if_pos (.inr (.inr ht5))]) hp
        · rw [if_neg (by rintro (h | h | h); exact h hday; exact ht0 h; exact ht5 h)] at hE1
          cases hf : findA L name with
          | some a =>
            simp only [hf] at hlk
            rw [hf] at hE1
            exact (Open_there (nb a.name) cb mb name typ day w hsz hc0 hgood hday (by omega) (by omega) hlk).mono fun e w' hp => same 62 e w' (by decide) (by rw [hE1]; rfl) hp
          | none =>
            simp only [hf] at hlk
            rw [hf] at hE1
            simp only [Option.isSome_none, Bool.false_eq_true, if_false] at hE1
            by_cases hL : 100 ≤ L.length
            · rw [if_pos hL] at hE1
              exact (Open_many cb mb name typ day w hsz hc0 hgood hday (by omega) (by omega) hlk L hlen hL).mono fun e w' hp => same 2 e w' (by decide) hE1 hp
            · rw [if_neg hL] at hE1
              cases hpar : parentF name with
              | none =>
                rw [hpar] at hE1
                simp only at hE1
                by_cases ht : typ = 0
                · rw [if_pos ht] at hE1
                  exact (Open_root0 cb mb name typ day w hsz hc0 hgood hday ht hlk L hlen (by omega) hpar).mono fun e w' hp => same 64 e w' (by decide) hE1 hp
                · rw [if_neg ht] at hE1
                  have hT : (openA L name typ day).typ = typ := by unfold openA; rw [hpar]
                  refine Open_root cb mb name typ day w hsz hc0 hgood hday (by omega) (by omega) ht hlk L hlen (by omega) hpar _ (fun W hb => ?_)
                  have := hadd hE1 W hb
                  rw [hT] at this
                  exact this
              | some u =>
                rw [hpar] at hE1
                simp only at hE1
                by_cases ht : typ = 0
                · rw [if_pos ht] at hE1
                  by_cases hm : mayE L u day = 0
                  · obtain ⟨p, hp, hfp, hn, _, _⟩ := may_ok hm
                    subst hn
                    have hT : (openA L name typ day).typ = p.typ := by unfold openA; rw [hpar]; simp [hfp]
                    refine Open_kid p.name cb mb name typ day w hsz hc0 hgood hday ht hlk L hlen (by omega) hpar _ (hmay p.name) hm (nb p.name) p.typ (fun W hb => ?_) (fun W hb => ?_) _ (fun W hb => ?_)
                    · have := (hkeep W hb).lookup p.name
                      rw [hfp] at this
                      exact this
                    · rw [cell_of_blk ((hkeep W hb).hN p hp)]; rfl
                    · have := hadd (by rw [hE1]; exact hm) W hb
                      rw [hT] at this
                      exact this
                  · exact (Open_may u cb mb name typ day w hsz hc0 hgood hday ht hlk L hlen (by omega) hpar _ (hmay u) hm).mono fun e w' hp => same _ e w' hm hE1 hp
                · rw [if_neg ht] at hE1
                  exact (Open_kid1 u cb mb name typ day w hsz hc0 hgood hday (by omega) (by omega) ht hlk L hlen (by omega) hpar).mono fun e w' hp => same 64 e w' (by decide) hE1 hp
    · exact (Open_day cb mb name typ day w hsz hc0 hgood hday).mono fun e w' hp => same 1 e w' (by decide) (by rw [hE1, if_pos (.inl hday)]) hp
end Go.Proofs.YthbiepgpflpfoaaDoor
