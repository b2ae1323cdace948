/- Open of a chart; What calls on a chart do to its list of accounts: in plain words. No program; The books in plain words: what they hold behind events, and what an event does; no walk here; How the books lie in memory: each part in blocks of a role of its own. -/
import Derived.Test.YtgocoofcelggcaaGreatDoorPack3
import Derived.Test.YtgocoofcelggcaaGreatDoorPack2
import Derived.Test.YtgocoofcelggcaaGreatDoorPack1
import Derived.Deep.AppendLies
namespace Go.Proofs.YtgocoofcelggcaaGreatDoor
open Go.RowKit
set_option linter.unusedVariables false
set_option linter.unusedSimpArgs false

theorem run_len_strmap {P : Program} {w : World} {b : Nat} {ps : List (ByteArray × Value)} (h : StrMap w b ps) {T K E : TypeId} (hT : P.underlying T = some (.map K E)) (ty : TypeId) :
    Sem.run P (Builtin.len_ #[T] ty #[.map (some b)]) w = .ok (.int .i64 ps.length) w := by
  obtain ⟨es, c, h1, h2⟩ := h
  have hl : es.size = ps.length := by have := congrArg List.length h2; simpa using this
  unfold Builtin.len_
  simp [run_underlying hT, MapKept.run_getObj_map h1, hl, goInt, Result.andThen]

set_option maxRecDepth 100000 in
theorem isDay_any (n : Int) (w : World) : Calls Tryz.prog 126 #[.int .i64 n] w fun e w' => e = .returned (.bool (decide (1 ≤ n ∧ n ≤ 3652059))) ∧ w' = w := by
  by_cases h1 : 1 ≤ n
  · by_cases h2 : n ≤ 3652059
    · go_enter Tryz.func126, Tryz.ntmps126
      go_wp2
      go_ret
      exact ⟨ret_bool (by simp [h1, h2]), rfl⟩
    · go_enter Tryz.func126, Tryz.ntmps126
      go_wp2
      go_ret
      exact ⟨ret_bool (by simp [h1, h2]), rfl⟩
  · go_enter Tryz.func126, Tryz.ntmps126
    go_wp2
    go_ret
    exact ⟨ret_bool (by simp; omega), rfl⟩

set_option maxRecDepth 100000 in
set_option maxHeartbeats 1000000 in
theorem Open_path (cb mb : Nat) (name : ByteArray) (typ day : Int) (w : World) (hsz : name.size ≤ 140737488355328) (hc0 : ∀ W : World, Below w.heap.size w W → W.cell? ⟨cb, 0, none⟩ = some (.map (some mb))) (hgood : goodB name.data.toList = false) :
    Calls Tryz.prog 88 #[.pointer (some ⟨cb, 0, none⟩), .string name, .int .i64 typ, .int .i64 day] w fun e w' => e = .returned (.int .i64 60) ∧ Below w.heap.size w w' := by
  have hp := Parent_any name w hsz
  have hg := fun W => Good_any name W (by unfold maxLen; omega)
  have hdd := fun W => isDay_any day W
  rw [hgood] at hg
  go_enter Tryz.func88, Tryz.ntmps88
  go_wp2_with (first | (go_at_call 86; refine hp.mono ?_; rintro e W1 ⟨rfl, hb1⟩) | (go_at_call 125; refine (hg _).mono ?_; rintro e W2 ⟨rfl, hb2⟩; have hB2 := hb1.trans (hb2.mono hb1.size)))
  go_ret
  exact ⟨rfl, hB2⟩

set_option maxRecDepth 100000 in
set_option maxHeartbeats 1000000 in
theorem Open_day (cb mb : Nat) (name : ByteArray) (typ day : Int) (w : World) (hsz : name.size ≤ 140737488355328) (hc0 : ∀ W : World, Below w.heap.size w W → W.cell? ⟨cb, 0, none⟩ = some (.map (some mb))) (hgood : goodB name.data.toList = true) (hday : ¬ (1 ≤ day ∧ day ≤ 3652059)) :
    Calls Tryz.prog 88 #[.pointer (some ⟨cb, 0, none⟩), .string name, .int .i64 typ, .int .i64 day] w fun e w' => e = .returned (.int .i64 1) ∧ Below w.heap.size w w' := by
  have hp := Parent_any name w hsz
  have hg := fun W => Good_any name W (by unfold maxLen; omega)
  have hdd := fun W => isDay_any day W
  rw [hgood] at hg
  have hd : decide (1 ≤ day ∧ day ≤ 3652059) = false := by simp [hday]
  rw [hd] at hdd
  clear hd
  clear hday
  go_enter Tryz.func88, Tryz.ntmps88
  go_wp2_with (first | (go_at_call 86; refine hp.mono ?_; rintro e W1 ⟨rfl, hb1⟩) | (go_at_call 125; refine (hg _).mono ?_; rintro e W2 ⟨rfl, hb2⟩; have hB2 := hb1.trans (hb2.mono hb1.size)) | (go_at_call 126; refine (hdd _).mono ?_; rintro e w' ⟨rfl, rfl⟩))
  go_ret
  exact ⟨rfl, hB2⟩

set_option maxRecDepth 100000 in
set_option maxHeartbeats 1000000 in
theorem Open_low (cb mb : Nat) (name : ByteArray) (typ day : Int) (w : World) (hsz : name.size ≤ 140737488355328) (hc0 : ∀ W : World, Below w.heap.size w W → W.cell? ⟨cb, 0, none⟩ = some (.map (some mb))) (hgood : goodB name.data.toList = true) (hday : 1 ≤ day ∧ day ≤ 3652059) (ht : typ < 0) :
    Calls Tryz.prog 88 #[.pointer (some ⟨cb, 0, none⟩), .string name, .int .i64 typ, .int .i64 day] w fun e w' => e = .returned (.int .i64 1) ∧ Below w.heap.size w w' := by
  have hp := Parent_any name w hsz
  have hg := fun W => Good_any name W (by unfold maxLen; omega)
  have hdd := fun W => isDay_any day W
  rw [hgood] at hg
  have hd : decide (1 ≤ day ∧ day ≤ 3652059) = true := by simp [hday]
  rw [hd] at hdd
  clear hd
  clear hday
  go_enter Tryz.func88, Tryz.ntmps88
  go_wp2_with (first | (go_at_call 86; refine hp.mono ?_; rintro e W1 ⟨rfl, hb1⟩) | (go_at_call 125; refine (hg _).mono ?_; rintro e W2 ⟨rfl, hb2⟩; have hB2 := hb1.trans (hb2.mono hb1.size)) | (go_at_call 126; refine (hdd _).mono ?_; rintro e w' ⟨rfl, rfl⟩))
  go_ret
  exact ⟨rfl, hB2⟩

set_option maxRecDepth 100000 in
set_option maxHeartbeats 1000000 in
theorem Open_high (cb mb : Nat) (name : ByteArray) (typ day : Int) (w : World) (hsz : name.size ≤ 140737488355328) (hc0 : ∀ W : World, Below w.heap.size w W → W.cell? ⟨cb, 0, none⟩ = some (.map (some mb))) (hgood : goodB name.data.toList = true) (hday : 1 ≤ day ∧ day ≤ 3652059) (ht0 : 0 ≤ typ) (ht : 5 < typ) :
    Calls Tryz.prog 88 #[.pointer (some ⟨cb, 0, none⟩), .string name, .int .i64 typ, .int .i64 day] w fun e w' => e = .returned (.int .i64 1) ∧ Below w.heap.size w w' := by
  have hp := Parent_any name w hsz
  have hg := fun W => Good_any name W (by unfold maxLen; omega)
  have hdd := fun W => isDay_any day W
  rw [hgood] at hg
  have hd : decide (1 ≤ day ∧ day ≤ 3652059) = true := by simp [hday]
  rw [hd] at hdd
  clear hd
  clear hday
  go_enter Tryz.func88, Tryz.ntmps88
  go_wp2_with (first | (go_at_call 86; refine hp.mono ?_; rintro e W1 ⟨rfl, hb1⟩) | (go_at_call 125; refine (hg _).mono ?_; rintro e W2 ⟨rfl, hb2⟩; have hB2 := hb1.trans (hb2.mono hb1.size)) | (go_at_call 126; refine (hdd _).mono ?_; rintro e w' ⟨rfl, rfl⟩))
  go_ret
  exact ⟨rfl, hB2⟩

set_option maxRecDepth 100000 in
set_option maxHeartbeats 1000000 in
theorem Open_there (nb : Nat) (cb mb : Nat) (name : ByteArray) (typ day : Int) (w : World) (hsz : name.size ≤ 140737488355328) (hc0 : ∀ W : World, Below w.heap.size w W → W.cell? ⟨cb, 0, none⟩ = some (.map (some mb))) (hgood : goodB name.data.toList = true) (hday : 1 ≤ day ∧ day ≤ 3652059) (ht0 : 0 ≤ typ) (ht : typ ≤ 5) (hlk : ∀ W : World, Below w.heap.size w W → Sem.run Tryz.prog (Instr.lookup 108 (.map (some mb)) (.string name) false) W = .ok (.pointer (some ⟨nb, 0, none⟩)) W) :
    Calls Tryz.prog 88 #[.pointer (some ⟨cb, 0, none⟩), .string name, .int .i64 typ, .int .i64 day] w fun e w' => e = .returned (.int .i64 62) ∧ Below w.heap.size w w' := by
  have hp := Parent_any name w hsz
  have hg := fun W => Good_any name W (by unfold maxLen; omega)
  have hdd := fun W => isDay_any day W
  rw [hgood] at hg
  have hd : decide (1 ≤ day ∧ day ≤ 3652059) = true := by simp [hday]
  rw [hd] at hdd
  clear hd
  have HC := Lib.hid hc0
  have HL := Lib.hid hlk
  clear hc0 hlk hday
  go_enter Tryz.func88, Tryz.ntmps88
  go_wp2_with (first | (go_at_call 86; refine hp.mono ?_; rintro e W1 ⟨rfl, hb1⟩) | (go_at_call 125; refine (hg _).mono ?_; rintro e W2 ⟨rfl, hb2⟩; have hB2 := hb1.trans (hb2.mono hb1.size); have hc := HC.out W2 hB2; have hl := HL.out W2 hB2) | (go_at_call 126; refine (hdd _).mono ?_; rintro e w' ⟨rfl, rfl⟩))
  go_ret
  exact ⟨rfl, hB2⟩

set_option maxRecDepth 100000 in
set_option maxHeartbeats 1000000 in
theorem Open_many (cb mb : Nat) (name : ByteArray) (typ day : Int) (w : World) (hsz : name.size ≤ 140737488355328) (hc0 : ∀ W : World, Below w.heap.size w W → W.cell? ⟨cb, 0, none⟩ = some (.map (some mb))) (hgood : goodB name.data.toList = true) (hday : 1 ≤ day ∧ day ≤ 3652059) (ht0 : 0 ≤ typ) (ht : typ ≤ 5) (hlk : ∀ W : World, Below w.heap.size w W → Sem.run Tryz.prog (Instr.lookup 108 (.map (some mb)) (.string name) false) W = .ok (.pointer none) W) (L : List Acct) (hlen : ∀ W : World, Below w.heap.size w W → Sem.run Tryz.prog (Builtin.len_ #[108] 3 #[.map (some mb)]) W = .ok (.int .i64 L.length) W) (hL : 100 ≤ L.length) :
    Calls Tryz.prog 88 #[.pointer (some ⟨cb, 0, none⟩), .string name, .int .i64 typ, .int .i64 day] w fun e w' => e = .returned (.int .i64 2) ∧ Below w.heap.size w w' := by
  have hp := Parent_any name w hsz
  have hg := fun W => Good_any name W (by unfold maxLen; omega)
  have hdd := fun W => isDay_any day W
  rw [hgood] at hg
  have hd : decide (1 ≤ day ∧ day ≤ 3652059) = true := by simp [hday]
  rw [hd] at hdd
  clear hd
  have HC := Lib.hid hc0
  have HL := Lib.hid hlk
  have HN := Lib.hid hlen
  clear hc0 hlk hlen hday
  go_enter Tryz.func88, Tryz.ntmps88
  go_wp2_with (first | (go_at_call 86; refine hp.mono ?_; rintro e W1 ⟨rfl, hb1⟩) | (go_at_call 125; refine (hg _).mono ?_; rintro e W2 ⟨rfl, hb2⟩; have hB2 := hb1.trans (hb2.mono hb1.size); have hc := HC.out W2 hB2; have hl := HL.out W2 hB2; have hn := HN.out W2 hB2) | (go_at_call 126; refine (hdd _).mono ?_; rintro e w' ⟨rfl, rfl⟩))
  go_ret
  exact ⟨rfl, hB2⟩

set_option maxRecDepth 100000 in
set_option maxHeartbeats 1000000 in
theorem Open_root0 (cb mb : Nat) (name : ByteArray) (typ day : Int) (w : World) (hsz : name.size ≤ 140737488355328) (hc0 : ∀ W : World, Below w.heap.size w W → W.cell? ⟨cb, 0, none⟩ = some (.map (some mb))) (hgood : goodB name.data.toList = true) (hday : 1 ≤ day ∧ day ≤ 3652059) (ht : typ = 0) (hlk : ∀ W : World, Below w.heap.size w W → Sem.run Tryz.prog (Instr.lookup 108 (.map (some mb)) (.string name) false) W = .ok (.pointer none) W) (L : List Acct) (hlen : ∀ W : World, Below w.heap.size w W → Sem.run Tryz.prog (Builtin.len_ #[108] 3 #[.map (some mb)]) W = .ok (.int .i64 L.length) W) (hL : L.length ≤ 99) (hpar : parentF name = none) :
    Calls Tryz.prog 88 #[.pointer (some ⟨cb, 0, none⟩), .string name, .int .i64 typ, .int .i64 day] w fun e w' => e = .returned (.int .i64 64) ∧ Below w.heap.size w w' := by
  have hp := Parent_any name w hsz
  have hg := fun W => Good_any name W (by unfold maxLen; omega)
  have hdd := fun W => isDay_any day W
  subst ht
  rw [hgood] at hg
  rw [hpar] at hp
  have hd : decide (1 ≤ day ∧ day ≤ 3652059) = true := by simp [hday]
  rw [hd] at hdd
  clear hd
  have HC := Lib.hid hc0
  have HL := Lib.hid hlk
  have HN := Lib.hid hlen
  clear hc0 hlk hlen hday
  go_enter Tryz.func88, Tryz.ntmps88
  go_wp2_with (first | (go_at_call 86; refine hp.mono ?_; rintro e W1 ⟨rfl, hb1⟩) | (go_at_call 125; refine (hg _).mono ?_; rintro e W2 ⟨rfl, hb2⟩; have hB2 := hb1.trans (hb2.mono hb1.size); have hc := HC.out W2 hB2; have hl := HL.out W2 hB2; have hn := HN.out W2 hB2) | (go_at_call 126; refine (hdd _).mono ?_; rintro e w' ⟨rfl, rfl⟩))
  go_ret
  exact ⟨rfl, hB2⟩

set_option maxRecDepth 100000 in
set_option maxHeartbeats 1000000 in
theorem Open_kid1 (u : ByteArray) (cb mb : Nat) (name : ByteArray) (typ day : Int) (w : World) (hsz : name.size ≤ 140737488355328) (hc0 : ∀ W : World, Below w.heap.size w W → W.cell? ⟨cb, 0, none⟩ = some (.map (some mb))) (hgood : goodB name.data.toList = true) (hday : 1 ≤ day ∧ day ≤ 3652059) (ht0 : 0 ≤ typ) (ht : typ ≤ 5) (ht1 : ¬ typ = 0) (hlk : ∀ W : World, Below w.heap.size w W → Sem.run Tryz.prog (Instr.lookup 108 (.map (some mb)) (.string name) false) W = .ok (.pointer none) W) (L : List Acct) (hlen : ∀ W : World, Below w.heap.size w W → Sem.run Tryz.prog (Builtin.len_ #[108] 3 #[.map (some mb)]) W = .ok (.int .i64 L.length) W) (hL : L.length ≤ 99) (hpar : parentF name = some u) :
    Calls Tryz.prog 88 #[.pointer (some ⟨cb, 0, none⟩), .string name, .int .i64 typ, .int .i64 day] w fun e w' => e = .returned (.int .i64 64) ∧ Below w.heap.size w w' := by
  have hp := Parent_any name w hsz
  have hg := fun W => Good_any name W (by unfold maxLen; omega)
  have hdd := fun W => isDay_any day W
  rw [hgood] at hg
  rw [hpar] at hp
  have hd : decide (1 ≤ day ∧ day ≤ 3652059) = true := by simp [hday]
  rw [hd] at hdd
  clear hd
  have HC := Lib.hid hc0
  have HL := Lib.hid hlk
  have HN := Lib.hid hlen
  clear hc0 hlk hlen hday
  have hbz : (typ == (0 : Int)) = false := by simpa using ht1
  go_enter Tryz.func88, Tryz.ntmps88
  go_wp2_with (first | (go_at_call 86; refine hp.mono ?_; rintro e W1 ⟨rfl, hb1⟩) | (go_at_call 125; refine (hg _).mono ?_; rintro e W2 ⟨rfl, hb2⟩; have hB2 := hb1.trans (hb2.mono hb1.size); have hc := HC.out W2 hB2; have hl := HL.out W2 hB2; have hn := HN.out W2 hB2) | (go_at_call 126; refine (hdd _).mono ?_; rintro e w' ⟨rfl, rfl⟩))
  go_ret
  exact ⟨rfl, hB2⟩

set_option maxRecDepth 100000 in
set_option maxHeartbeats 1000000 in
theorem Open_may (u : ByteArray) (cb mb : Nat) (name : ByteArray) (typ day : Int) (w : World) (hsz : name.size ≤ 140737488355328) (hc0 : ∀ W : World, Below w.heap.size w W → W.cell? ⟨cb, 0, none⟩ = some (.map (some mb))) (hgood : goodB name.data.toList = true) (hday : 1 ≤ day ∧ day ≤ 3652059) (ht : typ = 0) (hlk : ∀ W : World, Below w.heap.size w W → Sem.run Tryz.prog (Instr.lookup 108 (.map (some mb)) (.string name) false) W = .ok (.pointer none) W) (L : List Acct) (hlen : ∀ W : World, Below w.heap.size w W → Sem.run Tryz.prog (Builtin.len_ #[108] 3 #[.map (some mb)]) W = .ok (.int .i64 L.length) W) (hL : L.length ≤ 99) (hpar : parentF name = some u) (m : Int) (hm : ∀ W : World, Below w.heap.size w W → Calls Tryz.prog 87 #[.pointer (some ⟨cb, 0, none⟩), .string u, .int .i64 day] W fun e w' => e = .returned (.int .i64 m) ∧ W = w') (hm0 : ¬ m = 0) :
    Calls Tryz.prog 88 #[.pointer (some ⟨cb, 0, none⟩), .string name, .int .i64 typ, .int .i64 day] w fun e w' => e = .returned (.int .i64 m) ∧ Below w.heap.size w w' := by
  have hp := Parent_any name w hsz
  have hg := fun W => Good_any name W (by unfold maxLen; omega)
  have hdd := fun W => isDay_any day W
  subst ht
  rw [hgood] at hg
  rw [hpar] at hp
  have hd : decide (1 ≤ day ∧ day ≤ 3652059) = true := by simp [hday]
  rw [hd] at hdd
  clear hd
  have HC := Lib.hid hc0
  have HL := Lib.hid hlk
  have HN := Lib.hid hlen
  clear hc0 hlk hlen hday
  have HM := Lib.hid hm
  clear hm
  go_enter Tryz.func88, Tryz.ntmps88
  go_wp2_with (first | (go_at_call 86; refine hp.mono ?_; rintro e W1 ⟨rfl, hb1⟩) | (go_at_call 125; refine (hg _).mono ?_; rintro e W2 ⟨rfl, hb2⟩; have hB2 := hb1.trans (hb2.mono hb1.size); have hc := HC.out W2 hB2; have hl := HL.out W2 hB2; have hn := HN.out W2 hB2; have hM := HM.out W2 hB2) | (go_at_call 126; refine (hdd _).mono ?_; rintro e w' ⟨rfl, rfl⟩) | (go_at_call 87; refine hM.mono ?_; rintro e w' ⟨rfl, rfl⟩))
  go_ret
  exact ⟨rfl, hB2⟩

set_option maxRecDepth 100000 in
set_option maxHeartbeats 1000000 in
theorem Open_root (cb mb : Nat) (name : ByteArray) (typ day : Int) (w : World) (hsz : name.size ≤ 140737488355328) (hc0 : ∀ W : World, Below w.heap.size w W → W.cell? ⟨cb, 0, none⟩ = some (.map (some mb))) (hgood : goodB name.data.toList = true) (hday : 1 ≤ day ∧ day ≤ 3652059) (ht0 : 0 ≤ typ) (ht : typ ≤ 5) (ht1 : ¬ typ = 0) (hlk : ∀ W : World, Below w.heap.size w W → Sem.run Tryz.prog (Instr.lookup 108 (.map (some mb)) (.string name) false) W = .ok (.pointer none) W) (L : List Acct) (hlen : ∀ W : World, Below w.heap.size w W → Sem.run Tryz.prog (Builtin.len_ #[108] 3 #[.map (some mb)]) W = .ok (.int .i64 L.length) W) (hL : L.length ≤ 99) (hpar : parentF name = none) (Q : Ending → World → Prop) (hadd : ∀ W : World, Below w.heap.size w W → Calls Tryz.prog 127 #[.pointer (some ⟨cb, 0, none⟩), .agg #[.string name, .int .i64 typ, .int .i64 day, .bool false]] W fun e w' => e = .returned (.tuple #[]) ∧ Q (.returned (.int .i64 0)) w') :
    Calls Tryz.prog 88 #[.pointer (some ⟨cb, 0, none⟩), .string name, .int .i64 typ, .int .i64 day] w Q := by
  have hp := Parent_any name w hsz
  have hg := fun W => Good_any name W (by unfold maxLen; omega)
  have hdd := fun W => isDay_any day W
  rw [hgood] at hg
  rw [hpar] at hp
  have hd : decide (1 ≤ day ∧ day ≤ 3652059) = true := by simp [hday]
  rw [hd] at hdd
  clear hd
  have HC := Lib.hid hc0
  have HL := Lib.hid hlk
  have HN := Lib.hid hlen
  clear hc0 hlk hlen hday
  have hbz : (typ == (0 : Int)) = false := by simpa using ht1
  have HA := Lib.hid hadd
  clear hadd
  go_enter Tryz.func88, Tryz.ntmps88
  go_wp2_with (first | (go_at_call 86; refine hp.mono ?_; rintro e W1 ⟨rfl, hb1⟩) | (go_at_call 125; refine (hg _).mono ?_; rintro e W2 ⟨rfl, hb2⟩; have hB2 := hb1.trans (hb2.mono hb1.size); have hc := HC.out W2 hB2; have hl := HL.out W2 hB2; have hn := HN.out W2 hB2; have hA := HA.out W2 hB2) | (go_at_call 126; refine (hdd _).mono ?_; rintro e w' ⟨rfl, rfl⟩) | (go_at_call 127; refine hA.mono ?_; rintro e w' ⟨rfl, hq⟩))
  exact hq

set_option maxRecDepth 100000 in
set_option maxHeartbeats 1000000 in
theorem Open_kid (u : ByteArray) (cb mb : Nat) (name : ByteArray) (typ day : Int) (w : World) (hsz : name.size ≤ 140737488355328) (hc0 : ∀ W : World, Below w.heap.size w W → W.cell? ⟨cb, 0, none⟩ = some (.map (some mb))) (hgood : goodB name.data.toList = true) (hday : 1 ≤ day ∧ day ≤ 3652059) (ht : typ = 0) (hlk : ∀ W : World, Below w.heap.size w W → Sem.run Tryz.prog (Instr.lookup 108 (.map (some mb)) (.string name) false) W = .ok (.pointer none) W) (L : List Acct) (hlen : ∀ W : World, Below w.heap.size w W → Sem.run Tryz.prog (Builtin.len_ #[108] 3 #[.map (some mb)]) W = .ok (.int .i64 L.length) W) (hL : L.length ≤ 99) (hpar : parentF name = some u) (m : Int) (hm : ∀ W : World, Below w.heap.size w W → Calls Tryz.prog 87 #[.pointer (some ⟨cb, 0, none⟩), .string u, .int .i64 day] W fun e w' => e = .returned (.int .i64 m) ∧ W = w') (hm0 : m = 0) (pb : Nat) (pt : Int) (hlu : ∀ W : World, Below w.heap.size w W → Sem.run Tryz.prog (Instr.lookup 108 (.map (some mb)) (.string u) false) W = .ok (.pointer (some ⟨pb, 0, none⟩)) W) (hpt : ∀ W : World, Below w.heap.size w W → W.cell? ⟨pb, 1, none⟩ = some (.int .i64 pt)) (Q : Ending → World → Prop) (hadd : ∀ W : World, Below w.heap.size w W → Calls Tryz.prog 127 #[.pointer (some ⟨cb, 0, none⟩), .agg #[.string name, .int .i64 pt, .int .i64 day, .bool false]] W fun e w' => e = .returned (.tuple #[]) ∧ Q (.returned (.int .i64 0)) w') :
    Calls Tryz.prog 88 #[.pointer (some ⟨cb, 0, none⟩), .string name, .int .i64 typ, .int .i64 day] w Q := by
  have hp := Parent_any name w hsz
  have hg := fun W => Good_any name W (by unfold maxLen; omega)
  have hdd := fun W => isDay_any day W
  subst ht
  subst hm0
  rw [hgood] at hg
  rw [hpar] at hp
  have hd : decide (1 ≤ day ∧ day ≤ 3652059) = true := by simp [hday]
  rw [hd] at hdd
  clear hd
  have HC := Lib.hid hc0
  have HL := Lib.hid hlk
  have HN := Lib.hid hlen
  clear hc0 hlk hlen hday
  have HM := Lib.hid hm
  clear hm
  have HA := Lib.hid hadd
  clear hadd
  have HU := Lib.hid hlu
  have HT := Lib.hid hpt
  clear hlu hpt
  go_enter Tryz.func88, Tryz.ntmps88
  go_wp2_with (first | (go_at_call 86; refine hp.mono ?_; rintro e W1 ⟨rfl, hb1⟩) | (go_at_call 125; refine (hg _).mono ?_; rintro e W2 ⟨rfl, hb2⟩; have hB2 := hb1.trans (hb2.mono hb1.size); have hc := HC.out W2 hB2; have hl := HL.out W2 hB2; have hn := HN.out W2 hB2; have hM := HM.out W2 hB2; have hA := HA.out W2 hB2; have hU := HU.out W2 hB2; have hT := HT.out W2 hB2) | (go_at_call 126; refine (hdd _).mono ?_; rintro e w' ⟨rfl, rfl⟩) | (go_at_call 87; refine hM.mono ?_; rintro e w' ⟨rfl, rfl⟩) | (go_at_call 127; refine hA.mono ?_; rintro e w' ⟨rfl, hq⟩))
  exact hq

/-- What Open answers, and the accounts behind it. -/
def openE (L : List Acct) (name : ByteArray) (typ day : Int) : Int :=
  if goodB name.data.toList = false then 60
  else if ¬ (1 ≤ day ∧ day ≤ 3652059) ∨ typ < 0 ∨ 5 < typ then 1
  else if (findA L name).isSome then 62
  else if 100 ≤ L.length then 2
  else match parentF name with
    | none => if typ = 0 then 64 else 0
    | some u => if typ = 0 then mayE L u day else 64
def openA (L : List Acct) (name : ByteArray) (typ day : Int) : Acct := ⟨name, match parentF name with | none => typ | some u => ((findA L u).getD noA).typ, day, false⟩
def openL (L : List Acct) (name : ByteArray) (typ day : Int) : List Acct := if openE L name typ day = 0 then insA (openA L name typ day) L else L

theorem may_ok {L : List Acct} {u : ByteArray} {day : Int} (h : mayE L u day = 0) : ∃ p ∈ L, findA L u = some p ∧ p.name = u ∧ p.closed = false ∧ p.opened ≤ day := by
  unfold mayE at h
  cases hf : findA L u with
  | none => rw [hf] at h; simp at h
  | some p =>
    rw [hf] at h
    simp only at h
    obtain ⟨hp, hn⟩ := findA_some hf
    cases hc : p.closed with
    | true => rw [hc] at h; simp at h
    | false =>
      rw [hc] at h
      by_cases hd : day < p.opened
      · simp [hd] at h
      · exact ⟨p, hp, rfl, hn, hc, by omega⟩

theorem open_fits {L : List Acct} (hv : Valid L) {name : ByteArray} {typ day : Int} (h : openE L name typ day = 0) : Fits L (openA L name typ day) := by
  unfold openE at h
  split at h
  · cases h
  rename_i hg
  split at h
  · cases h
  rename_i ha
  split at h
  · cases h
  rename_i hf
  split at h
  · cases h
  rename_i hl
  have hg' : goodB name.data.toList = true := by simpa using hg
  have hf' : findA L name = none := by simpa using hf
  have hday : 1 ≤ day ∧ day ≤ 3652059 := Decidable.not_not.1 fun e => ha (.inl e)
  have ht : ¬ typ < 0 ∧ ¬ 5 < typ := ⟨fun e => ha (.inr (.inl e)), fun e => ha (.inr (.inr e))⟩
  refine { none_ := hf', room := by omega, good := hg', up := ?_, day := hday, typ := ?_ }
  · intro u hu
    rw [show (openA L name typ day).name = name from rfl] at hu
    rw [hu] at h
    simp only at h
    split at h
    · obtain ⟨p, hp, hfp, hn, hc, ho⟩ := may_ok h
      refine ⟨p, hp, hn, ?_, ho, fun e => by rw [hc] at e; cases e⟩
      unfold openA
      rw [hu]
      simp [hfp]
    · cases h
  · unfold openA
    cases hu : parentF name with
    | none =>
      rw [hu] at h
      simp only at h ⊢
      split at h
      · cases h
      · omega
    | some u =>
      rw [hu] at h
      simp only at h ⊢
      split at h
      · obtain ⟨p, hp, hfp, hn, hc, ho⟩ := may_ok h
        rw [hfp]
        exact hv.typ p hp
      · cases h

theorem open_valid {L : List Acct} (hv : Valid L) (name : ByteArray) (typ day : Int) : Valid (openL L name typ day) := by
  unfold openL
  split
  · rename_i h; exact (open_fits hv h).valid hv
  · exact hv

theorem Open_any {w : World} {F : Nat → Prop} {cb : Nat} {L : List Acct} (h : ChartAt w F cb L) (hv : Valid L) (name : ByteArray) (typ day : Int) (hsz : name.size ≤ 140737488355328) :
    Calls Tryz.prog 88 #[.pointer (some ⟨cb, 0, none⟩), .string name, .int .i64 typ, .int .i64 day] w (MutPost F cb (openL L name typ day) (.int .i64 (openE L name typ day)) w) := by
  have hcat := h
  obtain ⟨mb, rv, nb, kv, ps, hcr⟩ := h
  have hkeep : ∀ W : World, Below w.heap.size w W → CR W F cb L mb rv nb kv ps := fun W hb => hcr.keep fun k _ hk => hb.block k hk
  have hc0 : ∀ W : World, Below w.heap.size w W → W.cell? ⟨cb, 0, none⟩ = some (.map (some mb)) := fun W hb => by rw [cell_of_blk (hkeep W hb).hC]; rfl
  have hlk := fun (W : World) (hb : Below w.heap.size w W) => (hkeep W hb).lookup name
  have hlen : ∀ W : World, Below w.heap.size w W → Sem.run Tryz.prog (Builtin.len_ #[108] 3 #[.map (some mb)]) W = .ok (.int .i64 L.length) W := fun W hb => by
    rw [run_len_strmap (hkeep W hb).hM Tryz.underlying108, hcr.hlen]
  have hmay : ∀ u (W : World), Below w.heap.size w W → Calls Tryz.prog 87 #[.pointer (some ⟨cb, 0, none⟩), .string u, .int .i64 day] W fun e w' => e = .returned (.int .i64 (mayE L u day)) ∧ W = w' := fun u W hb => May_any ⟨mb, rv, nb, kv, ps, hkeep W hb⟩ u day
  have same : ∀ (n : Int) (e : Ending) (w' : World), n ≠ 0 → openE L name typ day = n → (e = .returned (.int .i64 n) ∧ Below w.heap.size w w') → MutPost F cb (openL L name typ day) (.int .i64 (openE L name typ day)) w e w' := fun n e w' hn hc ⟨h1, h2⟩ => by
    unfold openL
    rw [hc, if_neg hn]
    exact ⟨h1, F, hcat.below h2, Ch.of_below h2, fun k hk => .inl hk⟩
  have hadd : openE L name typ day = 0 → ∀ (W : World), Below w.heap.size w W → Calls Tryz.prog 127 #[.pointer (some ⟨cb, 0, none⟩), .agg #[.string name, .int .i64 (openA L name typ day).typ, .int .i64 day, .bool false]] W
      fun e w' => e = .returned (.tuple #[]) ∧ MutPost F cb (openL L name typ day) (.int .i64 (openE L name typ day)) w (.returned (.int .i64 0)) w' := fun hE W hb => by
    have hfit := open_fits hv hE
    refine (add_any (hcat.below hb) (hfit.can hv)).mono ?_
    rintro e w' ⟨h1, F', h2, h3, h4⟩
    refine ⟨h1, ?_⟩
    unfold openL
    rw [hE, if_pos rfl]
    exact ⟨rfl, F', h2, (Ch.of_below hb).trans' h3, fun k hk => (h4 k hk).imp_right fun h => ⟨Nat.le_trans hb.size h.1, h.2⟩⟩
  cases hgood : goodB name.data.toList with
  | false => exact (Open_path cb mb name typ day w hsz hc0 hgood).mono fun e w' hp => same 60 e w' (by decide) (by unfold openE; rw [if_pos hgood]) hp
  | true =>
    have hE1 : openE L name typ day = if ¬ (1 ≤ day ∧ day ≤ 3652059) ∨ typ < 0 ∨ 5 < typ then 1 else if (findA L name).isSome then 62 else if 100 ≤ L.length then 2 else match parentF name with | none => if typ = 0 then 64 else 0 | some u => if typ = 0 then mayE L u day else 64 := by
      unfold openE
      rw [if_neg (by rw [hgood]; simp)]
    by_cases hday : 1 ≤ day ∧ day ≤ 3652059
    · by_cases ht0 : typ < 0
      · exact (Open_low cb mb name typ day w hsz hc0 hgood hday ht0).mono fun e w' hp => same 1 e w' (by decide) (by rw [hE1, if_pos (.inr (.inl ht0))]) hp
      · by_cases ht5 : 5 < typ
        · exact (Open_high cb mb name typ day w hsz hc0 hgood hday (by omega) ht5).mono fun e w' hp => same 1 e w' (by decide) (by rw [hE1, if_pos (.inr (.inr ht5))]) hp
        · rw [if_neg (by rintro (h | h | h); exact h hday; exact ht0 h; exact ht5 h)] at hE1
          cases hf : findA L name with
          | some a =>
            simp only [hf] at hlk
            rw [hf] at hE1
            exact (Open_there (nb a.name) cb mb name typ day w hsz hc0 hgood hday (by omega) (by omega) hlk).mono fun e w' hp => same 62 e w' (by decide) (by rw [hE1]; rfl) hp
          | none =>
            simp only [hf] at hlk
            rw [hf] at hE1
            simp only [Option.isSome_none, Bool.false_eq_true, if_false] at hE1
            by_cases hL : 100 ≤ L.length
            · rw [if_pos hL] at hE1
              exact (Open_many cb mb name typ day w hsz hc0 hgood hday (by omega) (by omega) hlk L hlen hL).mono fun e w' hp => same 2 e w' (by decide) hE1 hp
            · rw [if_neg hL] at hE1
              cases hpar : parentF name with
              | none =>
                rw [hpar] at hE1
                simp only at hE1
                by_cases ht : typ = 0
                · rw [if_pos ht] at hE1
                  exact (Open_root0 cb mb name typ day w hsz hc0 hgood hday ht hlk L hlen (by omega) hpar).mono fun e w' hp => same 64 e w' (by decide) hE1 hp
                · rw [if_neg ht] at hE1
                  have hT : (openA L name typ day).typ = typ := by unfold openA; rw [hpar]
                  refine Open_root cb mb name typ day w hsz hc0 hgood hday (by omega) (by omega) ht hlk L hlen (by omega) hpar _ (fun W hb => ?_)
                  have := hadd hE1 W hb
                  rw [hT] at this
                  exact this
              | some u =>
                rw [hpar] at hE1
                simp only at hE1
                by_cases ht : typ = 0
                · rw [if_pos ht] at hE1
                  by_cases hm : mayE L u day = 0
                  · obtain ⟨p, hp, hfp, hn, _, _⟩ := may_ok hm
                    subst hn
                    have hT : (openA L name typ day).typ = p.typ := by unfold openA; rw [hpar]; simp [hfp]
                    refine Open_kid p.name cb mb name typ day w hsz hc0 hgood hday ht hlk L hlen (by omega) hpar _ (hmay p.name) hm (nb p.name) p.typ (fun W hb => ?_) (fun W hb => ?_) _ (fun W hb => ?_)
                    · have := (hkeep W hb).lookup p.name
                      rw [hfp] at this
                      exact this
                    · rw [cell_of_blk ((hkeep W hb).hN p hp)]; rfl
                    · have := hadd (by rw [hE1]; exact hm) W hb
                      rw [hT] at this
                      exact this
                  · exact (Open_may u cb mb name typ day w hsz hc0 hgood hday ht hlk L hlen (by omega) hpar _ (hmay u) hm).mono fun e w' hp => same _ e w' hm hE1 hp
                · rw [if_neg ht] at hE1
                  exact (Open_kid1 u cb mb name typ day w hsz hc0 hgood hday (by omega) (by omega) ht hlk L hlen (by omega) hpar).mono fun e w' hp => same 64 e w' (by decide) hE1 hp
    · exact (Open_day cb mb name typ day w hsz hc0 hgood hday).mono fun e w' hp => same 1 e w' (by decide) (by rw [hE1, if_pos (.inl hday)]) hp
end Go.Proofs.YtgocoofcelggcaaGreatDoor
namespace Go.Proofs.YtgocoofcelggcaaGreatDoor
open Go.RowKit
set_option linter.unusedVariables false
set_option linter.unusedSimpArgs false

theorem mem_flat_self {L l : List Acct} {a : Acct} (h : a ∈ l) : a ∈ flatA L l := List.mem_flatMap.2 ⟨a, h, List.mem_cons_self ..⟩

/-- What is told below a list whose accounts are closed is closed. -/
theorem flat_closed {L : List Acct} (hv : Valid L) : ∀ (d : Nat) (l : List Acct), (∀ a ∈ l, a ∈ L) → (∀ a ∈ l, a.closed = true) → ∀ x ∈ preL L d l, x.closed = true
  | 0, l, _, _, x, hx => by simp [preL] at hx
  | d + 1, l, hl, hc, x, hx => by
    obtain ⟨a, ha, hx⟩ := List.mem_flatMap.1 hx
    rcases List.mem_cons.1 hx with rfl | hx
    · exact hc _ ha
    · refine flat_closed hv d (kidsA L a.name) (fun b hb => (List.mem_filter.1 hb).1) (fun b hb => ?_) x hx
      obtain ⟨hbL, hbp⟩ := List.mem_filter.1 hb
      obtain ⟨p, hp, e, _, _, h3⟩ := hv.up b hbL a.name (by simpa using hbp)
      have : p = a := hv.rising.inj hp (hl a ha) e
      exact h3 (this ▸ hc a ha)

theorem flat_all {L : List Acct} (hv : Valid L) (n : ByteArray) : (flatA L (kidsA L n)).all (·.closed) = (kidsA L n).all (·.closed) := by
  rw [Bool.eq_iff_iff, List.all_eq_true, List.all_eq_true]
  constructor
  · intro h x hx
    exact h x (mem_flat_self hx)
  · intro h x hx
    exact flat_closed hv 103 _ (fun b hb => (List.mem_filter.1 hb).1) h x hx

theorem closeE_kids {L : List Acct} (hv : Valid L) (name : ByteArray) : closeE L name = match findA L name with
    | none => 61
    | some a => if a.closed then 63 else if (kidsA L name).all (·.closed) then 0 else 65 := by
  unfold closeE
  cases hf : findA L name with
  | none => rfl
  | some a =>
    obtain ⟨ha, rfl⟩ := findA_some hf
    simp only [flat_all hv]

theorem rising_shut {L : List Acct} (n : ByteArray) (h : Rising L) : Rising (shutA n L) := by
  unfold Rising shutA at *
  rw [List.pairwise_map]
  refine h.imp ?_
  intro a b hab
  have e : ∀ c : Acct, (if c.name = n then { c with closed := true } else c).name = c.name := fun c => by split <;> rfl
  rw [e, e]
  exact hab

theorem mem_shut_of {n : ByteArray} {L : List Acct} {b : Acct} (h : b ∈ L) : (if b.name = n then { b with closed := true } else b) ∈ shutA n L := List.mem_map.2 ⟨b, h, rfl⟩

theorem close_valid {L : List Acct} (hv : Valid L) (name : ByteArray) : Valid (closeL L name) := by
  unfold closeL
  split
  · rename_i hE
    rw [closeE_kids hv] at hE
    cases hf : findA L name with
    | none => rw [hf] at hE; simp at hE
    | some a =>
      rw [hf] at hE
      simp only at hE
      obtain ⟨ha, rfl⟩ := findA_some hf
      have hk : (kidsA L a.name).all (·.closed) = true := by
        split at hE
        · cases hE
        · split at hE
          · assumption
          · cases hE
      rw [List.all_eq_true] at hk
      refine ⟨rising_shut _ hv.rising, by unfold shutA; simpa using hv.le, fun x hx => ?_, fun x hx u hu => ?_, fun x hx => ?_, fun x hx => ?_⟩
      · obtain ⟨b, hb, e, _⟩ := mem_shut hx
        rw [e]; exact hv.good b hb
      · obtain ⟨b, hb, e1, e2, e3, e4⟩ := mem_shut hx
        rw [e1] at hu
        obtain ⟨p, hp, rfl, h1, h2, h3⟩ := hv.up b hb u hu
        refine ⟨_, mem_shut_of (n := a.name) hp, by split <;> rfl, by rw [e2, ← h1]; split <;> rfl, by rw [e3]; refine Int.le_trans (Int.le_of_eq ?_) h2; split <;> rfl, fun hc => ?_⟩
        rw [e4]
        by_cases hba : b.name = a.name
        · rw [if_pos hba]
        · rw [if_neg hba]
          by_cases hpa : p.name = a.name
          · exact hk b (List.mem_filter.2 ⟨hb, by rw [hu, hpa]; simp⟩)
          · rw [if_neg hpa] at hc
            exact h3 hc
      · obtain ⟨b, hb, _, _, e, _⟩ := mem_shut hx
        rw [e]; exact hv.day b hb
      · obtain ⟨b, hb, _, e, _, _⟩ := mem_shut hx
        rw [e]; exact hv.typ b hb
  · exact hv

/-- One act: a call's kind and what it is handed. -/
structure ActV where
  kind : Int
  typ : Int
  day : Int
  name : ByteArray

def actE (L : List Acct) (a : ActV) : Int := if a.kind = 1 then openE L a.name a.typ a.day else if a.kind = 2 then closeE L a.name else if a.kind = 3 then mayE L a.name a.day else 0
def actL (L : List Acct) (a : ActV) : List Acct := if a.kind = 1 then openL L a.name a.typ a.day else if a.kind = 2 then closeL L a.name else L
def playL (L : List Acct) (ac : List ActV) : List Acct := ac.foldl actL L

theorem act_valid {L : List Acct} (hv : Valid L) (a : ActV) : Valid (actL L a) := by
  unfold actL
  split
  · exact open_valid hv _ _ _
  · split
    · exact close_valid hv _
    · exact hv
theorem play_valid : ∀ (ac : List ActV) {L : List Acct}, Valid L → Valid (playL L ac)
  | [], _, h => h
  | a :: r, _, h => play_valid r (act_valid h a)
theorem playL_take (L : List Acct) (ac : List ActV) (k : Nat) (h : k < ac.length) : playL L (ac.take (k + 1)) = actL (playL L (ac.take k)) ac[k] := by
  unfold playL
  rw [List.take_succ_eq_append_getElem h, List.foldl_append]
  rfl

/-- A call that is refused changes nothing. -/
theorem act_refused (L : List Acct) (a : ActV) (h : actE L a ≠ 0 ∨ a.kind = 3) : actL L a = L := by
  unfold actE at h
  unfold actL openL closeL
  split
  · rename_i h1
    rw [if_pos h1] at h
    rw [if_neg]
    intro e
    rcases h with h | h
    · exact h e
    · omega
  · rename_i h1
    rw [if_neg h1] at h
    split
    · rename_i h2
      rw [if_pos h2] at h
      rw [if_neg]
      intro e
      rcases h with h | h
      · exact h e
      · omega
    · rfl
end Go.Proofs.YtgocoofcelggcaaGreatDoor
namespace Go.Proofs.YtgocoofcelggcaaGreatDoor
set_option linter.unusedVariables false
set_option linter.unusedSimpArgs false

structure PostV where
  seq : Int
  line : Int
  day : Int
  kind : Int
  key : ByteArray
  account : ByteArray
  amount : Int
  tag : ByteArray
  memo : ByteArray

structure EntryV where
  key : ByteArray
  day : Int
  lines : List LineV
  void : ByteArray

/-- An invoice or a payment, and what was allotted of it. -/
structure ClaimV where
  key : ByteArray
  account : ByteArray
  day : Int
  due : Int
  amount : Int
  used : Int
  pay : Bool

structure AllotV where
  pay : ByteArray
  invoice : ByteArray
  day : Int
  amount : Int

structure BookS where
  events : Int
  chart : List Acct
  keys : List ByteArray
  rows : List PostV
  entries : List EntryV
  claims : List ClaimV
  allots : List AllotV
  lock : Int
  turnover : Int

def newS : BookS := ⟨0, [], [], [], [], [], [], 0, 0⟩

def absI (a : Int) : Int := if a < 0 then -a else a
def sumAbs (l : List PostV) : Int := (l.map fun r => absI r.amount).sum
def maxA : Int := 9223372036854775807
def grownF (t : Int) (l : List PostV) : Option Int := if t + sumAbs l ≤ maxA then some (t + sumAbs l) else none

def hasRow (rows : List PostV) (acc : ByteArray) : Bool := rows.any fun r => decide (r.account = acc)
def ownF (rows : List PostV) (acc : ByteArray) : Int := ((rows.filter fun r => decide (r.account = acc)).map (·.amount)).sum
def lastF (rows : List PostV) (acc : ByteArray) : Int := (rows.filter fun r => decide (r.account = acc)).foldl (fun t r => max t r.day) 0

def keyedB (k : Int) : Bool := decide (3 ≤ k ∧ k ≤ 7)
def usedB (S : BookS) (k : ByteArray) : Bool := S.keys.any fun x => decide (x = k)
def entryOf (S : BookS) (k : ByteArray) : Option EntryV := S.entries.find? fun x => decide (x.key = k)
def claimOf (S : BookS) (k : ByteArray) : Option ClaimV := S.claims.find? fun x => decide (x.key = k)

def rowV (S : BookS) (e : EventV) (line : Int) (account : ByteArray) (amount : Int) (tag : ByteArray) : PostV :=
  ⟨S.events + 1, line, e.day, e.kind, e.key, account, amount, tag, e.memo⟩
def linesFrom (S : BookS) (e : EventV) (sign : Int) : Nat → List LineV → List PostV
  | _, [] => []
  | i, x :: l => rowV S e ((i : Int) + 1) x.account (sign * x.amount) x.tag :: linesFrom S e sign (i + 1) l
def linesRows (S : BookS) (e : EventV) (sign : Int) (l : List LineV) : List PostV := linesFrom S e sign 0 l
def rowsOf (S : BookS) (e : EventV) : List PostV :=
  if e.kind = 3 then linesRows S e 1 e.lines
  else if e.kind = 4 then (match entryOf S e.ref with | none => [] | some x => linesRows S e (-1) x.lines)
  else if e.kind = 5 then [rowV S e 1 e.account e.amount emptyB, rowV S e 2 e.other (-e.amount) emptyB]
  else if e.kind = 6 then [rowV S e 1 e.other e.amount emptyB, rowV S e 2 e.account (-e.amount) emptyB]
  else []

def mayAllE (L : List Acct) (day : Int) : List LineV → Int
  | [] => 0
  | x :: l => if mayE L x.account day = 0 then mayAllE L day l else mayE L x.account day
def mayOpenE (S : BookS) (e : EventV) : Int :=
  if (findA S.chart e.account).isSome then 62 else if 100 ≤ S.chart.length then 2 else match parentF e.account with | none => 0 | some u => mayE S.chart u e.day
def openB (L : List Acct) (a : Acct) : Bool := match findA L a.name with | none => false | some b => !b.closed
def owesB (cs : List ClaimV) (acc : ByteArray) : Bool := cs.any fun c => decide (c.account = acc) && decide (0 < c.amount - c.used)
def inUseB (S : BookS) (acc : ByteArray) : Bool := (kidsL S.chart acc).any (openB S.chart) || decide (ownF S.rows acc ≠ 0) || owesB S.claims acc
def mayCloseE (S : BookS) (e : EventV) : Int :=
  match findA S.chart e.account with
  | none => 61
  | some a => if a.closed then 63 else if inUseB S e.account then 65 else if e.day < a.opened ∨ e.day < lastF S.rows e.account then 66 else 0
def sumL (l : List LineV) : Int := (l.map (·.amount)).sum
def mayPostE (S : BookS) (e : EventV) : Int :=
  if mayAllE S.chart e.day e.lines = 0 then (if sumL e.lines = 0 then 0 else 72) else mayAllE S.chart e.day e.lines
def mayVoidE (S : BookS) (e : EventV) : Int :=
  match entryOf S e.ref with
  | none => 73
  | some x => if !nilB x.void then 74 else if e.day < x.day then 66 else mayAllE S.chart e.day x.lines
def typOf (L : List Acct) (n : ByteArray) : Int := ((findA L n).getD noA).typ
def mayTradeE (S : BookS) (e : EventV) (other : Int) : Int :=
  if mayE S.chart e.account e.day = 0 then
    (if mayE S.chart e.other e.day = 0 then (if typOf S.chart e.account = 1 ∧ typOf S.chart e.other = other then 0 else 64) else mayE S.chart e.other e.day)
  else mayE S.chart e.account e.day
def mayAllotE (S : BookS) (e : EventV) : Int :=
  match claimOf S e.ref, claimOf S e.ref2 with
  | some p, some i =>
    if p.pay && !i.pay then
      (if p.account = i.account then (if e.day < p.day ∨ e.day < i.day then 66 else if p.amount - p.used < e.amount ∨ i.amount - i.used < e.amount then 75 else 0) else 76)
    else 73
  | _, _ => 73
def mayLockE (S : BookS) (e : EventV) : Int := if e.day ≤ S.lock then 66 else 0
def refuseE (S : BookS) (e : EventV) : Int :=
  if e.kind = 1 then mayOpenE S e else if e.kind = 2 then mayCloseE S e else if e.kind = 3 then mayPostE S e else if e.kind = 4 then mayVoidE S e
  else if e.kind = 5 then mayTradeE S e 4 else if e.kind = 6 then mayTradeE S e 1 else if e.kind = 7 then mayAllotE S e else mayLockE S e

/-- Why an event is refused; 0: it is taken. -/
def checkE (S : BookS) (e : EventV) : Int :=
  if evB e = false then 50
  else if 1000 ≤ S.events then 2
  else if (keyedB e.kind && usedB S e.key) = true then 70
  else if e.kind ≠ 8 ∧ e.day ≤ S.lock then 71
  else if refuseE S e ≠ 0 then refuseE S e
  else if (grownF S.turnover (rowsOf S e)).isSome then 0 else 11

def voidL (k v : ByteArray) : List EntryV → List EntryV
  | [] => []
  | x :: l => if x.key = k then { x with void := v } :: l else x :: voidL k v l
def useL (k : ByteArray) (n : Int) : List ClaimV → List ClaimV
  | [] => []
  | x :: l => if x.key = k then { x with used := x.used + n } :: l else x :: useL k n l

/-- What else a kind changes. -/
def keepS (S : BookS) (e : EventV) : BookS :=
  if e.kind = 1 then { S with chart := openL S.chart e.account e.typ e.day }
  else if e.kind = 2 then { S with chart := closeL S.chart e.account }
  else if e.kind = 3 then { S with entries := S.entries ++ [⟨e.key, e.day, e.lines, emptyB⟩] }
  else if e.kind = 4 then { S with entries := voidL e.ref e.key S.entries }
  else if e.kind = 5 then { S with claims := S.claims ++ [⟨e.key, e.account, e.day, e.due, e.amount, 0, false⟩] }
  else if e.kind = 6 then { S with claims := S.claims ++ [⟨e.key, e.account, e.day, e.due, e.amount, 0, true⟩] }
  else if e.kind = 7 then { S with claims := useL e.ref2 e.amount (useL e.ref e.amount S.claims), allots := S.allots ++ [⟨e.ref, e.ref2, e.day, e.amount⟩] }
  else { S with lock := e.day }

/-- The books behind an event that is taken, ahead of what its kind changes. -/
def tookS (S : BookS) (e : EventV) : BookS :=
  { S with turnover := S.turnover + sumAbs (rowsOf S e), events := S.events + 1, keys := if keyedB e.kind then S.keys ++ [e.key] else S.keys, rows := S.rows ++ rowsOf S e }
def applyS (S : BookS) (e : EventV) : BookS := if checkE S e = 0 then keepS (tookS S e) e else S
def applyR (S : BookS) (e : EventV) : List PostV := if checkE S e = 0 then rowsOf S e else []

/-- What holds of the books behind any events. -/
structure OkS (S : BookS) : Prop where
  ev0 : 0 ≤ S.events
  ev1 : S.events ≤ 1000
  chart : Valid S.chart
  keysLe : (S.keys.length : Int) ≤ S.events
  keys : ∀ k ∈ S.keys, k.size ≤ 24
  rowsLe : (S.rows.length : Int) ≤ 12 * S.events
  turn : sumAbs S.rows = S.turnover
  turnLe : S.turnover ≤ maxA
  rowsAmt : ∀ r ∈ S.rows, -maxA ≤ r.amount ∧ r.amount ≤ maxA
  rowsDay : ∀ r ∈ S.rows, 1 ≤ r.day ∧ r.day ≤ 3652059
  entLe : (S.entries.length : Int) ≤ S.events
  entKeys : S.entries.Pairwise fun x y => x.key ≠ y.key
  entIn : ∀ x ∈ S.entries, x.key ∈ S.keys
  entFit : ∀ x ∈ S.entries, fitB x.lines = true
  claLe : (S.claims.length : Int) ≤ S.events
  claKeys : S.claims.Pairwise fun x y => x.key ≠ y.key
  claIn : ∀ x ∈ S.claims, x.key ∈ S.keys
  claAmt : ∀ x ∈ S.claims, 0 < x.amount ∧ x.amount ≤ maxA ∧ 0 ≤ x.used ∧ x.used ≤ x.amount
  allLe : (S.allots.length : Int) ≤ S.events
  lock : 0 ≤ S.lock ∧ S.lock ≤ 3652059

theorem ok_new : OkS newS := by
  constructor <;> simp [newS, sumAbs, maxA]
  exact valid_nil

theorem absI_nonneg (a : Int) : 0 ≤ absI a := by unfold absI; split <;> omega
theorem sumAbs_nonneg (l : List PostV) : 0 ≤ sumAbs l := by
  unfold sumAbs
  induction l with
  | nil => simp
  | cons r l ih => have := absI_nonneg r.amount; simp only [List.map_cons, List.sum_cons]; omega
theorem sumAbs_append (l m : List PostV) : sumAbs (l ++ m) = sumAbs l + sumAbs m := by
  unfold sumAbs
  rw [List.map_append, List.sum_append]
theorem sumAbs_cons (r : PostV) (l : List PostV) : sumAbs (r :: l) = absI r.amount + sumAbs l := by
  unfold sumAbs
  simp
theorem ownF_append (l m : List PostV) (acc : ByteArray) : ownF (l ++ m) acc = ownF l acc + ownF m acc := by
  unfold ownF
  rw [List.filter_append, List.map_append, List.sum_append]
theorem ownF_one (r : PostV) (acc : ByteArray) : ownF [r] acc = if r.account = acc then r.amount else 0 := by
  unfold ownF
  by_cases h : r.account = acc <;> simp [h]
theorem ownF_bound (l : List PostV) (acc : ByteArray) : -sumAbs l ≤ ownF l acc ∧ ownF l acc ≤ sumAbs l := by
  induction l with
  | nil => simp [ownF, sumAbs]
  | cons r l ih =>
    have e : ownF (r :: l) acc = ownF [r] acc + ownF l acc := ownF_append [r] l acc
    rw [e, sumAbs_cons, ownF_one]
    have := absI_nonneg r.amount
    have h2 : -absI r.amount ≤ r.amount ∧ r.amount ≤ absI r.amount := by unfold absI; split <;> omega
    split <;> omega
theorem lastF_snoc (l : List PostV) (r : PostV) (acc : ByteArray) : lastF (l ++ [r]) acc = if r.account = acc then max (lastF l acc) r.day else lastF l acc := by
  unfold lastF
  rw [List.filter_append]
  by_cases h : r.account = acc <;> simp [h]
theorem hasRow_snoc (l : List PostV) (r : PostV) (acc : ByteArray) : hasRow (l ++ [r]) acc = (hasRow l acc || decide (r.account = acc)) := by
  unfold hasRow
  simp
end Go.Proofs.YtgocoofcelggcaaGreatDoor
namespace Go.Proofs.YtgocoofcelggcaaGreatDoor
open Go.RowKit
set_option linter.unusedVariables false
set_option linter.unusedSimpArgs false

/-! ### A row of things that is read -/

/-- A slice of things of s cells each, to be read; its blocks are of R. -/
structure RowAt (w : World) (R : Nat → Prop) (s : Nat) (v : Value) (xs : List (List Value)) : Prop where
  ex : ∃ (A : Option Addr) (c : Nat), v = .slice A xs.length c ∧ ∀ j (hj : j < xs.length), ∃ ad, A = some ad ∧ ad.block < w.heap.size ∧ R ad.block ∧ ∀ i u, xs[j][i]? = some u → w.cell? ((ad.add (j * s)).add i) = some u

theorem RowAt.keep {w w' : World} {R R' : Nat → Prop} {s : Nat} {v : Value} {xs : List (List Value)} (h : RowAt w R s v xs) (hk : ∀ k, R k → k < w.heap.size → w'.heap[k]? = w.heap[k]? ∧ R' k) : RowAt w' R' s v xs := by
  obtain ⟨A, c, hv, hx⟩ := h
  refine ⟨A, c, hv, fun j hj => ?_⟩
  obtain ⟨ad, e1, h1, h2, h3⟩ := hx j hj
  obtain ⟨k1, k2⟩ := hk _ h2 h1
  have hl : ad.block < w'.heap.size := by
    have h4 : w.heap[ad.block]? = some (w.heap[ad.block]'h1) := Array.getElem?_eq_getElem h1
    exact heap_lt (k1.trans h4)
  refine ⟨ad, e1, hl, k2, fun i u hu => ?_⟩
  rw [← h3 i u hu]
  exact World.cell?_of_block (by rw [block_add, block_add]; exact k1)
theorem RowAt.below {w w' : World} {R : Nat → Prop} {s : Nat} {v : Value} {xs : List (List Value)} (h : RowAt w R s v xs) (hb : Below w.heap.size w w') : RowAt w' R s v xs :=
  h.keep fun k hR hk => ⟨hb.block k hk, hR⟩
theorem RowAt.mono {w : World} {R R' : Nat → Prop} {s : Nat} {v : Value} {xs : List (List Value)} (h : RowAt w R s v xs) (hk : ∀ k, R k → R' k) : RowAt w R' s v xs :=
  h.keep fun k hR _ => ⟨rfl, hk k hR⟩
theorem RowAt.ch {w w' : World} {R F : Nat → Prop} {s : Nat} {v : Value} {xs : List (List Value)} (h : RowAt w R s v xs) (hc : Ch F w w') (hd : ∀ k, R k → ¬ F k) : RowAt w' R s v xs :=
  h.keep fun k hR hk => ⟨hc.block k hk (hd k hR), hR⟩
theorem RowAt.nil (w : World) (R : Nat → Prop) (s : Nat) : RowAt w R s (.slice none 0 0) [] := ⟨none, 0, rfl, fun j hj => by simp at hj⟩

theorem flat_get {s : Nat} : ∀ (xs : List (List Value)), (∀ x ∈ xs, x.length = s) → ∀ j (hj : j < xs.length) i u, xs[j][i]? = some u → xs.flatten[j * s + i]? = some u
  | [], _, j, hj, _, _, _ => by simp at hj
  | x :: xs, hs, 0, _, i, u, hu => by
    have hi : i < x.length := (List.getElem?_eq_some_iff.1 hu).1
    rw [List.flatten_cons, List.getElem?_append_left (by simpa using hi)]
    simpa using hu
  | x :: xs, hs, j + 1, hj, i, u, hu => by
    have hx : x.length = s := hs x (by simp)
    rw [List.flatten_cons, List.getElem?_append_right (by rw [hx]; have : (j + 1) * s = j * s + s := Nat.succ_mul _ _; omega)]
    have e : (j + 1) * s + i - x.length = j * s + i := by rw [hx]; have : (j + 1) * s = j * s + s := Nat.succ_mul _ _; omega
    rw [e]
    exact flat_get xs (fun y hy => hs y (by simp [hy])) j (by simpa using hj) i u (by simpa using hu)

/-- What is owned can be read. -/
theorem RowAt.of_own {w : World} {B e s : Nat} {v : Value} {xs : List (List Value)} {R : Nat → Prop} (h : w.ownsRow B e s v xs.length xs.flatten) (hs : ∀ x ∈ xs, x.length = s) (hR : ∀ k, v.ownBlock = some k → R k) : RowAt w R s v xs := by
  rcases h.2 with ⟨hv, h0⟩ | ⟨g, cap, cur, hv, hb, hg, r⟩
  · refine ⟨none, 0, by rw [hv, h0], fun j hj => by omega⟩
  · refine ⟨some ⟨g, 0, none⟩, cap, hv, fun j hj => ⟨_, rfl, heap_lt hg, hR g (by rw [hv]; rfl), fun i u hu => ?_⟩⟩
    have := h.cells (g := g) (by rw [hv]; rfl) (j * s + i) u (flat_get xs hs j hj i u hu)
    rw [Addr.add_lit] at this
    rw [Addr.add_lit, Addr.add_lit]
    simpa [Nat.add_assoc] using this

/-! ### What lies in the cells -/
def encLine (x : LineV) : List Value := [.string x.account, .int .i64 x.amount, .string x.tag]
def encPost (r : PostV) : List Value := [.int .i64 r.seq, .int .i64 r.line, .int .i64 r.day, .int .i64 r.kind, .string r.key, .string r.account, .int .i64 r.amount, .string r.tag, .string r.memo]
def encAllot (a : AllotV) : List Value := [.string a.pay, .string a.invoice, .int .i64 a.day, .int .i64 a.amount]
def encEntry (x : EntryV) (v : Value) : List Value := [.string x.key, .int .i64 x.day, v, .string x.void]
def claimCs (c : ClaimV) : Array Value := #[.string c.key, .string c.account, .int .i64 c.day, .int .i64 c.due, .int .i64 c.amount, .int .i64 c.used, .bool c.pay]

/-- Lines that are read. -/
def LinesAt (w : World) (R : Nat → Prop) (v : Value) (l : List LineV) : Prop := RowAt w R 3 v (l.map encLine)
/-- Rows that are read. -/
def PostsAt (w : World) (R : Nat → Prop) (v : Value) (l : List PostV) : Prop := RowAt w R 9 v (l.map encPost)

/-! ### The parts -/
/-- A row that the books own, in blocks of a role. -/
structure OwnP (w : World) (ρ : Nat → Nat) (r : Nat) (e : TypeId) (s : Nat) (v : Value) (n : Nat) (xs : List Value) : Prop where
  own : w.ownsRow 0 e s v n xs
  role : ∀ k, v.ownBlock = some k → ρ k = r
/-- A map of the books. -/
structure MapP (w : World) (ρ : Nat → Nat) (r : Nat) (b : Nat) (I : List (ByteArray × Value) → Prop) : Prop where
  ex : ∃ ps, StrMap w b ps ∧ I ps
  role : ρ b = r

/-- The blocks of role r are as they were. -/
def SameR (ρ ρ' : Nat → Nat) (w w' : World) (r : Nat) : Prop := ∀ k, k < w.heap.size → ρ k = r → w'.heap[k]? = w.heap[k]? ∧ ρ' k = r

theorem OwnP.keep {w w' : World} {ρ ρ' : Nat → Nat} {r : Nat} {e : TypeId} {s : Nat} {v : Value} {n : Nat} {xs : List Value} (h : OwnP w ρ r e s v n xs) (hk : SameR ρ ρ' w w' r) : OwnP w' ρ' r e s v n xs :=
  ⟨ownsRow_keep h.own fun k e => (hk k (h.own.lt k e).2 (h.role k e)).1, fun k e => (hk k (h.own.lt k e).2 (h.role k e)).2⟩
theorem MapP.keep {w w' : World} {ρ ρ' : Nat → Nat} {r b : Nat} {I : List (ByteArray × Value) → Prop} (h : MapP w ρ r b I) (hk : SameR ρ ρ' w w' r) : MapP w' ρ' r b I := by
  obtain ⟨⟨ps, h1, h2⟩, h3⟩ := h
  obtain ⟨k1, k2⟩ := hk b h1.lt h3
  exact ⟨⟨ps, h1.keep k1, h2⟩, k2⟩

def KnownI (keys : List ByteArray) (ps : List (ByteArray × Value)) : Prop :=
  ∀ k, (k ∉ keys → getP k ps = none) ∧ (k ∈ keys → ∃ n : Int, 0 < n ∧ getP k ps = some (.int .i64 n))
def OwnI (rows : List PostV) (ps : List (ByteArray × Value)) : Prop := ∀ k, getP k ps = if hasRow rows k then some (.int .i64 (ownF rows k)) else none
def LastI (rows : List PostV) (ps : List (ByteArray × Value)) : Prop := ∀ k, getP k ps = if hasRow rows k then some (.int .i64 (lastF rows k)) else none
def EntryI (es : List EntryV) (ps : List (ByteArray × Value)) : Prop := ∀ k, getP k ps = (es.findIdx? fun x => decide (x.key = k)).map fun i => .int .i64 (i : Int)
def ClaimI (cs : List ClaimV) (cl : Nat → Nat) (ps : List (ByteArray × Value)) : Prop := ∀ k, getP k ps = (cs.findIdx? fun x => decide (x.key = k)).map fun i => ptrV (cl i)

/-- The entries' cells; lv: where each one's lines lie. -/
def entCells (es : List EntryV) (lv : Nat → Value) : List (List Value) := es.mapIdx fun i x => encEntry x (lv i)
/-- The claims' addresses. -/
def ptrsFrom (cl : Nat → Nat) (n : Nat) : List Value := (List.range n).map fun i => ptrV (cl i)

def bookCs (S : BookS) (cb : Nat) (kV rV eV oV aV : Value) (mk mo ml me mc : Nat) : Array Value :=
  #[.int .i64 S.events, ptrV cb, kV, .map (some mk), rV, .map (some mo), .map (some ml), eV, .map (some me), .map (some mc), oV, aV, .int .i64 S.lock, .int .i64 S.turnover]

/-- Where the parts lie. -/
structure Pl where mkPl ::
  cb : Nat
  kV : Value
  rV : Value
  eV : Value
  oV : Value
  aV : Value
  mK : Nat
  mO : Nat
  mL : Nat
  mE : Nat
  mC : Nat
  lv : Nat → Value
  cl : Nat → Nat

def Pl.cells (p : Pl) (S : BookS) : Array Value := bookCs S p.cb p.kV p.rV p.eV p.oV p.aV p.mK p.mO p.mL p.mE p.mC

structure BookP (w : World) (ρ : Nat → Nat) (bb : Nat) (S : BookS) (p : Pl) : Prop where
  head : w.heap[bb]? = some (.cells (p.cells S) 78 (0, 0))
  rH : ρ bb = 1
  chart : ∃ F, ChartAt w F p.cb S.chart ∧ ∀ k, F k → ρ k = 2 ∧ k < w.heap.size
  keys : OwnP w ρ 3 9 1 p.kV S.keys.length (S.keys.map .string)
  known : MapP w ρ 4 p.mK (KnownI S.keys)
  rows : OwnP w ρ 5 39 9 p.rV S.rows.length (S.rows.map encPost).flatten
  own : MapP w ρ 6 p.mO (OwnI S.rows)
  last : MapP w ρ 7 p.mL (LastI S.rows)
  entries : OwnP w ρ 8 81 4 p.eV S.entries.length (entCells S.entries p.lv).flatten
  lines : ∀ i (hi : i < S.entries.length), LinesAt w (fun k => ρ k = 9) (p.lv i) S.entries[i].lines
  entry : MapP w ρ 10 p.mE (EntryI S.entries)
  claims : MapP w ρ 11 p.mC (ClaimI S.claims p.cl)
  order : OwnP w ρ 12 79 1 p.oV S.claims.length (ptrsFrom p.cl S.claims.length)
  claim : ∀ i (hi : i < S.claims.length), w.heap[p.cl i]? = some (.cells (claimCs S.claims[i]) 94 (0, 0)) ∧ ρ (p.cl i) = 13
  inj : ∀ i j, i < S.claims.length → j < S.claims.length → p.cl i = p.cl j → i = j
  allots : OwnP w ρ 14 87 4 p.aV S.allots.length (S.allots.map encAllot).flatten
  lt : ∀ k, ρ k ≠ 0 → k < w.heap.size

/-- The books lie at bb; F: all their blocks. -/
structure BookAt (w : World) (F : Nat → Prop) (bb : Nat) (S : BookS) : Prop where
  ex : ∃ ρ p, BookP w ρ bb S p ∧ (∀ k, F k ↔ ρ k ≠ 0)

theorem chart_keep {w w' : World} {ρ ρ' : Nat → Nat} {cb : Nat} {L : List Acct} (h : ∃ F, ChartAt w F cb L ∧ ∀ k, F k → ρ k = 2 ∧ k < w.heap.size) (hk : SameR ρ ρ' w w' 2) (hs : w.heap.size ≤ w'.heap.size) :
    ∃ F, ChartAt w' F cb L ∧ ∀ k, F k → ρ' k = 2 ∧ k < w'.heap.size := by
  obtain ⟨F, h1, h2⟩ := h
  exact ⟨F, h1.keep fun k hf hl => (hk k hl (h2 k hf).1).1, fun k hf => ⟨(hk k (h2 k hf).2 (h2 k hf).1).2, by have := (h2 k hf).2; omega⟩⟩
theorem lines_keep {w w' : World} {ρ ρ' : Nat → Nat} {es : List EntryV} {lv : Nat → Value} (h : ∀ i (hi : i < es.length), LinesAt w (fun k => ρ k = 9) (lv i) es[i].lines) (hk : SameR ρ ρ' w w' 9) :
    ∀ i (hi : i < es.length), LinesAt w' (fun k => ρ' k = 9) (lv i) es[i].lines := fun i hi => (h i hi).keep fun k hR hl => hk k hl hR
theorem claim_keep {w w' : World} {ρ ρ' : Nat → Nat} {cs : List ClaimV} {cl : Nat → Nat} (h : ∀ i (hi : i < cs.length), w.heap[cl i]? = some (.cells (claimCs cs[i]) 94 (0, 0)) ∧ ρ (cl i) = 13) (hk : SameR ρ ρ' w w' 13) :
    ∀ i (hi : i < cs.length), w'.heap[cl i]? = some (.cells (claimCs cs[i]) 94 (0, 0)) ∧ ρ' (cl i) = 13 := fun i hi =>
  ⟨(hk _ (heap_lt (h i hi).1) (h i hi).2).1.trans (h i hi).1, (hk _ (heap_lt (h i hi).1) (h i hi).2).2⟩

/-- What is not touched lives on. -/
theorem BookP.keep {w w' : World} {ρ : Nat → Nat} {bb : Nat} {S : BookS} {p : Pl} (h : BookP w ρ bb S p) (hs : w.heap.size ≤ w'.heap.size) (hk : ∀ k, k < w.heap.size → ρ k ≠ 0 → w'.heap[k]? = w.heap[k]?) : BookP w' ρ bb S p := by
  have hS : ∀ r, r ≠ 0 → SameR ρ ρ w w' r := fun r hr k hl he => ⟨hk k hl (by omega), he⟩
  exact {
    head := (hk bb (heap_lt h.head) (by have := h.rH; omega)).trans h.head
    rH := h.rH
    chart := chart_keep h.chart (hS 2 (by decide)) hs
    keys := h.keys.keep (hS 3 (by decide))
    known := h.known.keep (hS 4 (by decide))
    rows := h.rows.keep (hS 5 (by decide))
    own := h.own.keep (hS 6 (by decide))
    last := h.last.keep (hS 7 (by decide))
    entries := h.entries.keep (hS 8 (by decide))
    lines := lines_keep h.lines (hS 9 (by decide))
    entry := h.entry.keep (hS 10 (by decide))
    claims := h.claims.keep (hS 11 (by decide))
    order := h.order.keep (hS 12 (by decide))
    claim := claim_keep h.claim (hS 13 (by decide))
    inj := h.inj
    allots := h.allots.keep (hS 14 (by decide))
    lt := fun k hr => by have := h.lt k hr; omega }
theorem BookAt.keep {w w' : World} {F : Nat → Prop} {bb : Nat} {S : BookS} (h : BookAt w F bb S) (hs : w.heap.size ≤ w'.heap.size) (hk : ∀ k, k < w.heap.size → F k → w'.heap[k]? = w.heap[k]?) : BookAt w' F bb S := by
  obtain ⟨ρ, p, h1, h2⟩ := h
  exact ⟨ρ, p, h1.keep hs fun k hl hr => hk k hl ((h2 k).2 hr), h2⟩
theorem BookAt.below {w w' : World} {F : Nat → Prop} {bb : Nat} {S : BookS} (h : BookAt w F bb S) (hb : Below w.heap.size w w') : BookAt w' F bb S :=
  h.keep hb.size fun k hl _ => hb.block k hl
theorem BookAt.lt {w : World} {F : Nat → Prop} {bb : Nat} {S : BookS} (h : BookAt w F bb S) : ∀ k, F k → k < w.heap.size := by
  obtain ⟨ρ, p, h1, h2⟩ := h
  exact fun k hf => h1.lt k ((h2 k).1 hf)

/-- What a call leaves that changes the books: F' their blocks behind it. -/
structure BookPost (F : Nat → Prop) (bb : Nat) (S : BookS) (v : Value) (w : World) (e : Ending) (w' : World) : Prop where
  ret : e = .returned v
  ex : ∃ F', BookAt w' F' bb S ∧ Ch F w w' ∧ ∀ k, F' k → F k ∨ (w.heap.size ≤ k ∧ k < w'.heap.size)
end Go.Proofs.YtgocoofcelggcaaGreatDoor
