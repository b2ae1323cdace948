/- Open of a chart; Rows of accounts; what From needs to know of lists; Rows of accounts of one's own: their cells; The sorting of accounts by their names; below's iterator; Close of a chart; Rows of one's own: a cell written, a beginning of one, its cells. -/
import Derived.Test.YtplocldnklccfaaGreatDoorPack2
import Derived.Deep.RegionHeld3
import Derived.Laws.Cover1
import Derived.IntWalk
import Derived.BigQuiet
import Derived.Deep.QuietTactic
import Derived.Test.YtplocldnklccfaaGreatDoorSortLay
import Derived.Test.YtplocldnklccfaaGreatDoorPack1
namespace Go.Proofs.YtplocldnklccfaaGreatDoor
open Go.RowKit
set_option linter.unusedVariables false
set_option linter.unusedSimpArgs false

theorem run_len_strmap {P : Program} {w : World} {b : Nat} {ps : List (ByteArray × Value)} (h : StrMap w b ps) {T K E : TypeId} (hT : P.underlying T = some (.map K E)) (ty : TypeId) :
    Sem.run P (Builtin.len_ #[T] ty #[.map (some b)]) w = .ok (.int .i64 ps.length) w := by
  obtain ⟨es, c, h1, h2⟩ := h
  have hl : es.size = ps.length := by have := congrArg List.length h2; simpa using this
  unfold Builtin.len_
  simp [run_underlying hT, MapKept.run_getObj_map h1, hl, goInt, Result.andThen]

set_option maxRecDepth 100000 in
theorem isDay_any (n : Int) (w : World) : Calls Tryz.prog 209 #[.int .i64 n] w fun e w' => e = .returned (.bool (decide (1 ≤ n ∧ n ≤ 3652059))) ∧ w' = w := by
  by_cases h1 : 1 ≤ n
  · by_cases h2 : n ≤ 3652059
    · go_enter Tryz.func209, Tryz.ntmps209
      go_wp2
      go_ret
      exact ⟨ret_bool (by simp [h1, h2]), rfl⟩
    · go_enter Tryz.func209, Tryz.ntmps209
      go_wp2
      go_ret
      exact ⟨ret_bool (by simp [h1, h2]), rfl⟩
  · go_enter Tryz.func209, Tryz.ntmps209
    go_wp2
    go_ret
    exact ⟨ret_bool (by simp; omega), rfl⟩

set_option maxRecDepth 100000 in
set_option maxHeartbeats 1000000 in
theorem Open_path (cb mb : Nat) (name : ByteArray) (typ day : Int) (w : World) (hsz : name.size ≤ 140737488355328) (hc0 : ∀ W : World, Below w.heap.size w W → W.cell? ⟨cb, 0, none⟩ = some (.map (some mb))) (hgood : goodB name.data.toList = false) :
    Calls Tryz.prog 150 #[.pointer (some ⟨cb, 0, none⟩), .string name, .int .i64 typ, .int .i64 day] w fun e w' => e = .returned (.int .i64 60) ∧ Below w.heap.size w w' := by
  have hp := Parent_any name w hsz
  have hg := fun W => Good_any name W (by unfold maxLen; omega)
  have hdd := fun W => isDay_any day W
  rw [hgood] at hg
  go_enter Tryz.func150, Tryz.ntmps150
  go_wp2_with (first | (go_at_call 10; refine hp.mono ?_; rintro e W1 ⟨rfl, hb1⟩) | (go_at_call 6; refine (hg _).mono ?_; rintro e W2 ⟨rfl, hb2⟩; have hB2 := hb1.trans (hb2.mono hb1.size)))
  go_ret
  exact ⟨rfl, hB2⟩

set_option maxRecDepth 100000 in
set_option maxHeartbeats 1000000 in
theorem Open_day (cb mb : Nat) (name : ByteArray) (typ day : Int) (w : World) (hsz : name.size ≤ 140737488355328) (hc0 : ∀ W : World, Below w.heap.size w W → W.cell? ⟨cb, 0, none⟩ = some (.map (some mb))) (hgood : goodB name.data.toList = true) (hday : ¬ (1 ≤ day ∧ day ≤ 3652059)) :
    Calls Tryz.prog 150 #[.pointer (some ⟨cb, 0, none⟩), .string name, .int .i64 typ, .int .i64 day] w fun e w' => e = .returned (.int .i64 1) ∧ Below w.heap.size w w' := by
  have hp := Parent_any name w hsz
  have hg := fun W => Good_any name W (by unfold maxLen; omega)
  have hdd := fun W => isDay_any day W
  rw [hgood] at hg
  have hd : decide (1 ≤ day ∧ day ≤ 3652059) = false := by simp [hday]
  rw [hd] at hdd
  clear hd
  clear hday
  go_enter Tryz.func150, Tryz.ntmps150
  go_wp2_with (first | (go_at_call 10; refine hp.mono ?_; rintro e W1 ⟨rfl, hb1⟩) | (go_at_call 6; refine (hg _).mono ?_; rintro e W2 ⟨rfl, hb2⟩; have hB2 := hb1.trans (hb2.mono hb1.size)) | (go_at_call 209; refine (hdd _).mono ?_; rintro e w' ⟨rfl, rfl⟩))
  go_ret
  exact ⟨rfl, hB2⟩

set_option maxRecDepth 100000 in
set_option maxHeartbeats 1000000 in
theorem Open_low (cb mb : Nat) (name : ByteArray) (typ day : Int) (w : World) (hsz : name.size ≤ 140737488355328) (hc0 : ∀ W : World, Below w.heap.size w W → W.cell? ⟨cb, 0, none⟩ = some (.map (some mb))) (hgood : goodB name.data.toList = true) (hday : 1 ≤ day ∧ day ≤ 3652059) (ht : typ < 0) :
    Calls Tryz.prog 150 #[.pointer (some ⟨cb, 0, none⟩), .string name, .int .i64 typ, .int .i64 day] w fun e w' => e = .returned (.int .i64 1) ∧ Below w.heap.size w w' := by
  have hp := Parent_any name w hsz
  have hg := fun W => Good_any name W (by unfold maxLen; omega)
  have hdd := fun W => isDay_any day W
  rw [hgood] at hg
  have hd : decide (1 ≤ day ∧ day ≤ 3652059) = true := by simp [hday]
  rw [hd] at hdd
  clear hd
  clear hday
  go_enter Tryz.func150, Tryz.ntmps150
  go_wp2_with (first | (go_at_call 10; refine hp.mono ?_; rintro e W1 ⟨rfl, hb1⟩) | (go_at_call 6; refine (hg _).mono ?_; rintro e W2 ⟨rfl, hb2⟩; have hB2 := hb1.trans (hb2.mono hb1.size)) | (go_at_call 209; refine (hdd _).mono ?_; rintro e w' ⟨rfl, rfl⟩))
  go_ret
  exact ⟨rfl, hB2⟩

set_option maxRecDepth 100000 in
set_option maxHeartbeats 1000000 in
theorem Open_high (cb mb : Nat) (name : ByteArray) (typ day : Int) (w : World) (hsz : name.size ≤ 140737488355328) (hc0 : ∀ W : World, Below w.heap.size w W → W.cell? ⟨cb, 0, none⟩ = some (.map (some mb))) (hgood : goodB name.data.toList = true) (hday : 1 ≤ day ∧ day ≤ 3652059) (ht0 : 0 ≤ typ) (ht : 5 < typ) :
    Calls Tryz.prog 150 #[.pointer (some ⟨cb, 0, none⟩), .string name, .int .i64 typ, .int .i64 day] w fun e w' => e = .returned (.int .i64 1) ∧ Below w.heap.size w w' := by
  have hp := Parent_any name w hsz
  have hg := fun W => Good_any name W (by unfold maxLen; omega)
  have hdd := fun W => isDay_any day W
  rw [hgood] at hg
  have hd : decide (1 ≤ day ∧ day ≤ 3652059) = true := by simp [hday]
  rw [hd] at hdd
  clear hd
  clear hday
  go_enter Tryz.func150, Tryz.ntmps150
  go_wp2_with (first | (go_at_call 10; refine hp.mono ?_; rintro e W1 ⟨rfl, hb1⟩) | (go_at_call 6; refine (hg _).mono ?_; rintro e W2 ⟨rfl, hb2⟩; have hB2 := hb1.trans (hb2.mono hb1.size)) | (go_at_call 209; refine (hdd _).mono ?_; rintro e w' ⟨rfl, rfl⟩))
  go_ret
  exact ⟨rfl, hB2⟩

set_option maxRecDepth 100000 in
set_option maxHeartbeats 1000000 in
theorem Open_there (nb : Nat) (cb mb : Nat) (name : ByteArray) (typ day : Int) (w : World) (hsz : name.size ≤ 140737488355328) (hc0 : ∀ W : World, Below w.heap.size w W → W.cell? ⟨cb, 0, none⟩ = some (.map (some mb))) (hgood : goodB name.data.toList = true) (hday : 1 ≤ day ∧ day ≤ 3652059) (ht0 : 0 ≤ typ) (ht : typ ≤ 5) (hlk : ∀ W : World, Below w.heap.size w W → Sem.run Tryz.prog (Instr.lookup 145 (.map (some mb)) (.string name) false) W = .ok (.pointer (some ⟨nb, 0, none⟩)) W) :
    Calls Tryz.prog 150 #[.pointer (some ⟨cb, 0, none⟩), .string name, .int .i64 typ, .int .i64 day] w fun e w' => e = .returned (.int .i64 62) ∧ Below w.heap.size w w' := by
  have hp := Parent_any name w hsz
  have hg := fun W => Good_any name W (by unfold maxLen; omega)
  have hdd := fun W => isDay_any day W
  rw [hgood] at hg
  have hd : decide (1 ≤ day ∧ day ≤ 3652059) = true := by simp [hday]
  rw [hd] at hdd
  clear hd
  have HC := Lib.hid hc0
  have HL := Lib.hid hlk
  clear hc0 hlk hday
  go_enter Tryz.func150, Tryz.ntmps150
  go_wp2_with (first | (go_at_call 10; refine hp.mono ?_; rintro e W1 ⟨rfl, hb1⟩) | (go_at_call 6; refine (hg _).mono ?_; rintro e W2 ⟨rfl, hb2⟩; have hB2 := hb1.trans (hb2.mono hb1.size); have hc := HC.out W2 hB2; have hl := HL.out W2 hB2) | (go_at_call 209; refine (hdd _).mono ?_; rintro e w' ⟨rfl, rfl⟩))
  go_ret
  exact ⟨rfl, hB2⟩

set_option maxRecDepth 100000 in
set_option maxHeartbeats 1000000 in
theorem Open_many (cb mb : Nat) (name : ByteArray) (typ day : Int) (w : World) (hsz : name.size ≤ 140737488355328) (hc0 : ∀ W : World, Below w.heap.size w W → W.cell? ⟨cb, 0, none⟩ = some (.map (some mb))) (hgood : goodB name.data.toList = true) (hday : 1 ≤ day ∧ day ≤ 3652059) (ht0 : 0 ≤ typ) (ht : typ ≤ 5) (hlk : ∀ W : World, Below w.heap.size w W → Sem.run Tryz.prog (Instr.lookup 145 (.map (some mb)) (.string name) false) W = .ok (.pointer none) W) (L : List Acct) (hlen : ∀ W : World, Below w.heap.size w W → Sem.run Tryz.prog (Builtin.len_ #[145] 3 #[.map (some mb)]) W = .ok (.int .i64 L.length) W) (hL : 100 ≤ L.length) :
    Calls Tryz.prog 150 #[.pointer (some ⟨cb, 0, none⟩), .string name, .int .i64 typ, .int .i64 day] w fun e w' => e = .returned (.int .i64 2) ∧ Below w.heap.size w w' := by
  have hp := Parent_any name w hsz
  have hg := fun W => Good_any name W (by unfold maxLen; omega)
  have hdd := fun W => isDay_any day W
  rw [hgood] at hg
  have hd : decide (1 ≤ day ∧ day ≤ 3652059) = true := by simp [hday]
  rw [hd] at hdd
  clear hd
  have HC := Lib.hid hc0
  have HL := Lib.hid hlk
  have HN := Lib.hid hlen
  clear hc0 hlk hlen hday
  go_enter Tryz.func150, Tryz.ntmps150
  go_wp2_with (first | (go_at_call 10; refine hp.mono ?_; rintro e W1 ⟨rfl, hb1⟩) | (go_at_call 6; refine (hg _).mono ?_; rintro e W2 ⟨rfl, hb2⟩; have hB2 := hb1.trans (hb2.mono hb1.size); have hc := HC.out W2 hB2; have hl := HL.out W2 hB2; have hn := HN.out W2 hB2) | (go_at_call 209; refine (hdd _).mono ?_; rintro e w' ⟨rfl, rfl⟩))
  go_ret
  exact ⟨rfl, hB2⟩

set_option maxRecDepth 100000 in
set_option maxHeartbeats 1000000 in
theorem Open_root0 (cb mb : Nat) (name : ByteArray) (typ day : Int) (w : World) (hsz : name.size ≤ 140737488355328) (hc0 : ∀ W : World, Below w.heap.size w W → W.cell? ⟨cb, 0, none⟩ = some (.map (some mb))) (hgood : goodB name.data.toList = true) (hday : 1 ≤ day ∧ day ≤ 3652059) (ht : typ = 0) (hlk : ∀ W : World, Below w.heap.size w W → Sem.run Tryz.prog (Instr.lookup 145 (.map (some mb)) (.string name) false) W = .ok (.pointer none) W) (L : List Acct) (hlen : ∀ W : World, Below w.heap.size w W → Sem.run Tryz.prog (Builtin.len_ #[145] 3 #[.map (some mb)]) W = .ok (.int .i64 L.length) W) (hL : L.length ≤ 99) (hpar : parentF name = none) :
    Calls Tryz.prog 150 #[.pointer (some ⟨cb, 0, none⟩), .string name, .int .i64 typ, .int .i64 day] w fun e w' => e = .returned (.int .i64 64) ∧ Below w.heap.size w w' := by
  have hp := Parent_any name w hsz
  have hg := fun W => Good_any name W (by unfold maxLen; omega)
  have hdd := fun W => isDay_any day W
  subst ht
  rw [hgood] at hg
  rw [hpar] at hp
  have hd : decide (1 ≤ day ∧ day ≤ 3652059) = true := by simp [hday]
  rw [hd] at hdd
  clear hd
  have HC := Lib.hid hc0
  have HL := Lib.hid hlk
  have HN := Lib.hid hlen
  clear hc0 hlk hlen hday
  go_enter Tryz.func150, Tryz.ntmps150
  go_wp2_with (first | (go_at_call 10; refine hp.mono ?_; rintro e W1 ⟨rfl, hb1⟩) | (go_at_call 6; refine (hg _).mono ?_; rintro e W2 ⟨rfl, hb2⟩; have hB2 := hb1.trans (hb2.mono hb1.size); have hc := HC.out W2 hB2; have hl := HL.out W2 hB2; have hn := HN.out W2 hB2) | (go_at_call 209; refine (hdd _).mono ?_; rintro e w' ⟨rfl, rfl⟩))
  go_ret
  exact ⟨rfl, hB2⟩

set_option maxRecDepth 100000 in
set_option maxHeartbeats 1000000 in
theorem Open_kid1 (u : ByteArray) (cb mb : Nat) (name : ByteArray) (typ day : Int) (w : World) (hsz : name.size ≤ 140737488355328) (hc0 : ∀ W : World, Below w.heap.size w W → W.cell? ⟨cb, 0, none⟩ = some (.map (some mb))) (hgood : goodB name.data.toList = true) (hday : 1 ≤ day ∧ day ≤ 3652059) (ht0 : 0 ≤ typ) (ht : typ ≤ 5) (ht1 : ¬ typ = 0) (hlk : ∀ W : World, Below w.heap.size w W → Sem.run Tryz.prog (Instr.lookup 145 (.map (some mb)) (.string name) false) W = .ok (.pointer none) W) (L : List Acct) (hlen : ∀ W : World, Below w.heap.size w W → Sem.run Tryz.prog (Builtin.len_ #[145] 3 #[.map (some mb)]) W = .ok (.int .i64 L.length) W) (hL : L.length ≤ 99) (hpar : parentF name = some u) :
    Calls Tryz.prog 150 #[.pointer (some ⟨cb, 0, none⟩), .string name, .int .i64 typ, .int .i64 day] w fun e w' => e = .returned (.int .i64 64) ∧ Below w.heap.size w w' := by
  have hp := Parent_any name w hsz
  have hg := fun W => Good_any name W (by unfold maxLen; omega)
  have hdd := fun W => isDay_any day W
  rw [hgood] at hg
  rw [hpar] at hp
  have hd : decide (1 ≤ day ∧ day ≤ 3652059) = true := by simp [hday]
  rw [hd] at hdd
  clear hd
  have HC := Lib.hid hc0
  have HL := Lib.hid hlk
  have HN := Lib.hid hlen
  clear hc0 hlk hlen hday
  have hbz : (typ == (0 : Int)) = false := by simpa using ht1
  go_enter Tryz.func150, Tryz.ntmps150
  go_wp2_with (first | (go_at_call 10; refine hp.mono ?_; rintro e W1 ⟨rfl, hb1⟩) | (go_at_call 6; refine (hg _).mono ?_; rintro e W2 ⟨rfl, hb2⟩; have hB2 := hb1.trans (hb2.mono hb1.size); have hc := HC.out W2 hB2; have hl := HL.out W2 hB2; have hn := HN.out W2 hB2) | (go_at_call 209; refine (hdd _).mono ?_; rintro e w' ⟨rfl, rfl⟩))
  go_ret
  exact ⟨rfl, hB2⟩

set_option maxRecDepth 100000 in
set_option maxHeartbeats 1000000 in
theorem Open_may (u : ByteArray) (cb mb : Nat) (name : ByteArray) (typ day : Int) (w : World) (hsz : name.size ≤ 140737488355328) (hc0 : ∀ W : World, Below w.heap.size w W → W.cell? ⟨cb, 0, none⟩ = some (.map (some mb))) (hgood : goodB name.data.toList = true) (hday : 1 ≤ day ∧ day ≤ 3652059) (ht : typ = 0) (hlk : ∀ W : World, Below w.heap.size w W → Sem.run Tryz.prog (Instr.lookup 145 (.map (some mb)) (.string name) false) W = .ok (.pointer none) W) (L : List Acct) (hlen : ∀ W : World, Below w.heap.size w W → Sem.run Tryz.prog (Builtin.len_ #[145] 3 #[.map (some mb)]) W = .ok (.int .i64 L.length) W) (hL : L.length ≤ 99) (hpar : parentF name = some u) (m : Int) (hm : ∀ W : World, Below w.heap.size w W → Calls Tryz.prog 154 #[.pointer (some ⟨cb, 0, none⟩), .string u, .int .i64 day] W fun e w' => e = .returned (.int .i64 m) ∧ W = w') (hm0 : ¬ m = 0) :
    Calls Tryz.prog 150 #[.pointer (some ⟨cb, 0, none⟩), .string name, .int .i64 typ, .int .i64 day] w fun e w' => e = .returned (.int .i64 m) ∧ Below w.heap.size w w' := by
  have hp := Parent_any name w hsz
  have hg := fun W => Good_any name W (by unfold maxLen; omega)
  have hdd := fun W => isDay_any day W
  subst ht
  rw [hgood] at hg
  rw [hpar] at hp
  have hd : decide (1 ≤ day ∧ day ≤ 3652059) = true := by simp [hday]
  rw [hd] at hdd
  clear hd
  have HC := Lib.hid hc0
  have HL := Lib.hid hlk
  have HN := Lib.hid hlen
  clear hc0 hlk hlen hday
  have HM := Lib.hid hm
  clear hm
  go_enter Tryz.func150, Tryz.ntmps150
  go_wp2_with (first | (go_at_call 10; refine hp.mono ?_; rintro e W1 ⟨rfl, hb1⟩) | (go_at_call 6; refine (hg _).mono ?_; rintro e W2 ⟨rfl, hb2⟩; have hB2 := hb1.trans (hb2.mono hb1.size); have hc := HC.out W2 hB2; have hl := HL.out W2 hB2; have hn := HN.out W2 hB2; have hM := HM.out W2 hB2) | (go_at_call 209; refine (hdd _).mono ?_; rintro e w' ⟨rfl, rfl⟩) | (go_at_call 154; refine hM.mono ?_; rintro e w' ⟨rfl, rfl⟩))
  go_ret
  exact ⟨rfl, hB2⟩

set_option maxRecDepth 100000 in
set_option maxHeartbeats 1000000 in
theorem Open_root (cb mb : Nat) (name : ByteArray) (typ day : Int) (w : World) (hsz : name.size ≤ 140737488355328) (hc0 : ∀ W : World, Below w.heap.size w W → W.cell? ⟨cb, 0, none⟩ = some (.map (some mb))) (hgood : goodB name.data.toList = true) (hday : 1 ≤ day ∧ day ≤ 3652059) (ht0 : 0 ≤ typ) (ht : typ ≤ 5) (ht1 : ¬ typ = 0) (hlk : ∀ W : World, Below w.heap.size w W → Sem.run Tryz.prog (Instr.lookup 145 (.map (some mb)) (.string name) false) W = .ok (.pointer none) W) (L : List Acct) (hlen : ∀ W : World, Below w.heap.size w W → Sem.run Tryz.prog (Builtin.len_ #[145] 3 #[.map (some mb)]) W = .ok (.int .i64 L.length) W) (hL : L.length ≤ 99) (hpar : parentF name = none) (Q : Ending → World → Prop) (hadd : ∀ W : World, Below w.heap.size w W → Calls Tryz.prog 210 #[.pointer (some ⟨cb, 0, none⟩), .agg #[.string name, .int .i64 typ, .int .i64 day, .bool false]] W fun e w' => e = .returned (.tuple #[]) ∧ Q (.returned (.int .i64 0)) w') :
    Calls Tryz.prog 150 #[.pointer (some ⟨cb, 0, none⟩), .string name, .int .i64 typ, .int .i64 day] w Q := by
  have hp := Parent_any name w hsz
  have hg := fun W => Good_any name W (by unfold maxLen; omega)
  have hdd := fun W => isDay_any day W
  rw [hgood] at hg
  rw [hpar] at hp
  have hd : decide (1 ≤ day ∧ day ≤ 3652059) = true := by simp [hday]
  rw [hd] at hdd
  clear hd
  have HC := Lib.hid hc0
  have HL := Lib.hid hlk
  have HN := Lib.hid hlen
  clear hc0 hlk hlen hday
  have hbz : (typ == (0 : Int)) = false := by simpa using ht1
  have HA := Lib.hid hadd
  clear hadd
  go_enter Tryz.func150, Tryz.ntmps150
  go_wp2_with (first | (go_at_call 10; refine hp.mono ?_; rintro e W1 ⟨rfl, hb1⟩) | (go_at_call 6; refine (hg _).mono ?_; rintro e W2 ⟨rfl, hb2⟩; have hB2 := hb1.trans (hb2.mono hb1.size); have hc := HC.out W2 hB2; have hl := HL.out W2 hB2; have hn := HN.out W2 hB2; have hA := HA.out W2 hB2) | (go_at_call 209; refine (hdd _).mono ?_; rintro e w' ⟨rfl, rfl⟩) | (go_at_call 210; refine hA.mono ?_; rintro e w' ⟨rfl, hq⟩))
  exact hq

set_option maxRecDepth 100000 in
set_option maxHeartbeats 1000000 in
theorem Open_kid (u : ByteArray) (cb mb : Nat) (name : ByteArray) (typ day : Int) (w : World) (hsz : name.size ≤ 140737488355328) (hc0 : ∀ W : World, Below w.heap.size w W → W.cell? ⟨cb, 0, none⟩ = some (.map (some mb))) (hgood : goodB name.data.toList = true) (hday : 1 ≤ day ∧ day ≤ 3652059) (ht : typ = 0) (hlk : ∀ W : World, Below w.heap.size w W → Sem.run Tryz.prog (Instr.lookup 145 (.map (some mb)) (.string name) false) W = .ok (.pointer none) W) (L : List Acct) (hlen : ∀ W : World, Below w.heap.size w W → Sem.run Tryz.prog (Builtin.len_ #[145] 3 #[.map (some mb)]) W = .ok (.int .i64 L.length) W) (hL : L.length ≤ 99) (hpar : parentF name = some u) (m : Int) (hm : ∀ W : World, Below w.heap.size w W → Calls Tryz.prog 154 #[.pointer (some ⟨cb, 0, none⟩), .string u, .int .i64 day] W fun e w' => e = .returned (.int .i64 m) ∧ W = w') (hm0 : m = 0) (pb : Nat) (pt : Int) (hlu : ∀ W : World, Below w.heap.size w W → Sem.run Tryz.prog (Instr.lookup 145 (.map (some mb)) (.string u) false) W = .ok (.pointer (some ⟨pb, 0, none⟩)) W) (hpt : ∀ W : World, Below w.heap.size w W → W.cell? ⟨pb, 1, none⟩ = some (.int .i64 pt)) (Q : Ending → World → Prop) (hadd : ∀ W : World, Below w.heap.size w W → Calls Tryz.prog 210 #[.pointer (some ⟨cb, 0, none⟩), .agg #[.string name, .int .i64 pt, .int .i64 day, .bool false]] W fun e w' => e = .returned (.tuple #[]) ∧ Q (.returned (.int .i64 0)) w') :
    Calls Tryz.prog 150 #[.pointer (some ⟨cb, 0, none⟩), .string name, .int .i64 typ, .int .i64 day] w Q := by
  have hp := Parent_any name w hsz
  have hg := fun W => Good_any name W (by unfold maxLen; omega)
  have hdd := fun W => isDay_any day W
  subst ht
  subst hm0
  rw [hgood] at hg
  rw [hpar] at hp
  have hd : decide (1 ≤ day ∧ day ≤ 3652059) = true := by simp [hday]
  rw [hd] at hdd
  clear hd
  have HC := Lib.hid hc0
  have HL := Lib.hid hlk
  have HN := Lib.hid hlen
  clear hc0 hlk hlen hday
  have HM := Lib.hid hm
  clear hm
  have HA := Lib.hid hadd
  clear hadd
  have HU := Lib.hid hlu
  have HT := Lib.hid hpt
  clear hlu hpt
  go_enter Tryz.func150, Tryz.ntmps150
  go_wp2_with (first | (go_at_call 10; refine hp.mono ?_; rintro e W1 ⟨rfl, hb1⟩) | (go_at_call 6; refine (hg _).mono ?_; rintro e W2 ⟨rfl, hb2⟩; have hB2 := hb1.trans (hb2.mono hb1.size); have hc := HC.out W2 hB2; have hl := HL.out W2 hB2; have hn := HN.out W2 hB2; have hM := HM.out W2 hB2; have hA := HA.out W2 hB2; have hU := HU.out W2 hB2; have hT := HT.out W2 hB2) | (go_at_call 209; refine (hdd _).mono ?_; rintro e w' ⟨rfl, rfl⟩) | (go_at_call 154; refine hM.mono ?_; rintro e w' ⟨rfl, rfl⟩) | (go_at_call 210; refine hA.mono ?_; rintro e w' ⟨rfl, hq⟩))
  exact hq

/-- What Open answers, and the accounts behind it. -/
def openE (L : List Acct) (name : ByteArray) (typ day : Int) : Int :=
  if goodB name.data.toList = false then 60
  else if ¬ (1 ≤ day ∧ day ≤ 3652059) ∨ typ < 0 ∨ 5 < typ then 1
  else if (findA L name).isSome then 62
  else if 100 ≤ L.length then 2
  else match parentF name with
    | none => if typ = 0 then 64 else 0
    | some u => if typ = 0 then mayE L u day else 64
def openA (L : List Acct) (name : ByteArray) (typ day : Int) : Acct := ⟨name, match parentF name with | none => typ | some u => ((findA L u).getD noA).typ, day, false⟩
def openL (L : List Acct) (name : ByteArray) (typ day : Int) : List Acct := if openE L name typ day = 0 then insA (openA L name typ day) L else L

theorem may_ok {L : List Acct} {u : ByteArray} {day : Int} (h : mayE L u day = 0) : ∃ p ∈ L, findA L u = some p ∧ p.name = u ∧ p.closed = false ∧ p.opened ≤ day := by
  unfold mayE at h
  cases hf : findA L u with
  | none => rw [hf] at h; simp at h
  | some p =>
    rw [hf] at h
    simp only at h
    obtain ⟨hp, hn⟩ := findA_some hf
    cases hc : p.closed with
    | true => rw [hc] at h; simp at h
    | false =>
      rw [hc] at h
      by_cases hd : day < p.opened
      · simp [hd] at h
      · exact ⟨p, hp, rfl, hn, hc, by omega⟩

theorem open_fits {L : List Acct} (hv : Valid L) {name : ByteArray} {typ day : Int} (h : openE L name typ day = 0) : Fits L (openA L name typ day) := by
  unfold openE at h
  split at h
  · cases h
  rename_i hg
  split at h
  · cases h
  rename_i ha
  split at h
  · cases h
  rename_i hf
  split at h
  · cases h
  rename_i hl
  have hg' : goodB name.data.toList = true := by simpa using hg
  have hf' : findA L name = none := by simpa using hf
  have hday : 1 ≤ day ∧ day ≤ 3652059 := Decidable.not_not.1 fun e => ha (.inl e)
  have ht : ¬ typ < 0 ∧ ¬ 5 < typ := ⟨fun e => ha (.inr (.inl e)), fun e => ha (.inr (.inr e))⟩
  refine { none_ := hf', room := by omega, good := hg', up := ?_, day := hday, typ := ?_ }
  · intro u hu
    rw [show (openA L name typ day).name = name from rfl] at hu
    rw [hu] at h
    simp only at h
    split at h
    · obtain ⟨p, hp, hfp, hn, hc, ho⟩ := may_ok h
      refine ⟨p, hp, hn, ?_, ho, fun e => by rw [hc] at e; cases e⟩
      unfold openA
      rw [hu]
      simp [hfp]
    · cases h
  · unfold openA
    cases hu : parentF name with
    | none =>
      rw [hu] at h
      simp only at h ⊢
      split at h
      · cases h
      · omega
    | some u =>
      rw [hu] at h
      simp only at h ⊢
      split at h
      · obtain ⟨p, hp, hfp, hn, hc, ho⟩ := may_ok h
        rw [hfp]
        exact hv.typ p hp
      · cases h

theorem open_valid {L : List Acct} (hv : Valid L) (name : ByteArray) (typ day : Int) : Valid (openL L name typ day) := by
  unfold openL
  split
  · rename_i h; exact (open_fits hv h).valid hv
  · exact hv

theorem Open_any {w : World} {F : Nat → Prop} {cb : Nat} {L : List Acct} (h : ChartAt w F cb L) (hv : Valid L) (name : ByteArray) (typ day : Int) (hsz : name.size ≤ 140737488355328) :
    Calls Tryz.prog 150 #[.pointer (some ⟨cb, 0, none⟩), .string name, .int .i64 typ, .int .i64 day] w (MutPost F cb (openL L name typ day) (.int .i64 (openE L name typ day)) w) := by
  have hcat := h
  obtain ⟨mb, rv, nb, kv, ps, hcr⟩ := h
  have hkeep : ∀ W : World, Below w.heap.size w W → CR W F cb L mb rv nb kv ps := fun W hb => hcr.keep fun k _ hk => hb.block k hk
  have hc0 : ∀ W : World, Below w.heap.size w W → W.cell? ⟨cb, 0, none⟩ = some (.map (some mb)) := fun W hb => by rw [cell_of_blk (hkeep W hb).hC]; rfl
  have hlk := fun (W : World) (hb : Below w.heap.size w W) => (hkeep W hb).lookup name
  have hlen : ∀ W : World, Below w.heap.size w W → Sem.run Tryz.prog (Builtin.len_ #[145] 3 #[.map (some mb)]) W = .ok (.int .i64 L.length) W := fun W hb => by
    rw [run_len_strmap (hkeep W hb).hM Tryz.underlying145, hcr.hlen]
  have hmay : ∀ u (W : World), Below w.heap.size w W → Calls Tryz.prog 154 #[.pointer (some ⟨cb, 0, none⟩), .string u, .int .i64 day] W fun e w' => e = .returned (.int .i64 (mayE L u day)) ∧ W = w' := fun u W hb => May_any ⟨mb, rv, nb, kv, ps, hkeep W hb⟩ u day
  have same : ∀ (n : Int) (e : Ending) (w' : World), n ≠ 0 → openE L name typ day = n → (e = .returned (.int .i64 n) ∧ Below w.heap.size w w') → MutPost F cb (openL L name typ day) (.int .i64 (openE L name typ day)) w e w' := fun n e w' hn hc ⟨h1, h2⟩ => by
    unfold openL
    rw [hc, if_neg hn]
    exact ⟨h1, F, hcat.below h2, Ch.of_below h2, fun k hk => .inl hk⟩
  have hadd : openE L name typ day = 0 → ∀ (W : World), Below w.heap.size w W → Calls Tryz.prog 210 #[.pointer (some ⟨cb, 0, none⟩), .agg #[.string name, .int .i64 (openA L name typ day).typ, .int .i64 day, .bool false]] W
      fun e w' => e = .returned (.tuple #[]) ∧ MutPost F cb (openL L name typ day) (.int .i64 (openE L name typ day)) w (.returned (.int .i64 0)) w' := fun hE W hb => by
    have hfit := open_fits hv hE
    refine (add_any (hcat.below hb) (hfit.can hv)).mono ?_
    rintro e w' ⟨h1, F', h2, h3, h4⟩
    refine ⟨h1, ?_⟩
    unfold openL
    rw [hE, if_pos rfl]
    exact ⟨rfl, F', h2, (Ch.of_below hb).trans' h3, fun k hk => (h4 k hk).imp_right fun h => ⟨Nat.le_trans hb.size h.1, h.2⟩⟩
  cases hgood : goodB name.data.toList with
  | false => exact (Open_path cb mb name typ day w hsz hc0 hgood).mono fun e w' hp => same 60 e w' (by decide) (by unfold openE; rw [if_pos hgood]) hp
  | true =>
    have hE1 : openE L name typ day = if ¬ (1 ≤ day ∧ day ≤ 3652059) ∨ typ < 0 ∨ 5 < typ then 1 else if (findA L name).isSome then 62 else if 100 ≤ L.length then 2 else match parentF name with | none => if typ = 0 then 64 else 0 | some u => if typ = 0 then mayE L u day else 64 := by
      unfold openE
      rw [if_neg (by rw [hgood]; simp)]
    by_cases hday : 1 ≤ day ∧ day ≤ 3652059
    · by_cases ht0 : typ < 0
      · exact (Open_low cb mb name typ day w hsz hc0 hgood hday ht0).mono fun e w' hp => same 1 e w' (by decide) (by rw [hE1, if_pos (.inr (.inl ht0))]) hp
      · by_cases ht5 : 5 < typ
        · exact (Open_high cb mb name typ day w hsz hc0 hgood hday (by omega) ht5).mono fun e w' hp => same 1 e w' (by decide) (by rw [hE1, if_pos (.inr (.inr ht5))]) hp
        · rw [if_neg (by rintro (h | h | h); exact h hday; exact ht0 h; exact ht5 h)] at hE1
          cases hf : findA L name with
          | some a =>
            simp only [hf] at hlk
            rw [hf] at hE1
            exact (Open_there (nb a.name) cb mb name typ day w hsz hc0 hgood hday (by omega) (by omega) hlk).mono fun e w' hp => same 62 e w' (by decide) (by rw [hE1]; rfl) hp
          | none =>
            simp only [hf] at hlk
            rw [hf] at hE1
            simp only [Option.isSome_none, Bool.false_eq_true, if_false] at hE1
            by_cases hL : 100 ≤ L.length
            · rw [if_pos hL] at hE1
              exact (Open_many cb mb name typ day w hsz hc0 hgood hday (by omega) (by omega) hlk L hlen hL).mono fun e w' hp => same 2 e w' (by decide) hE1 hp
            · rw [if_neg hL] at hE1
              cases hpar : parentF name with
              | none =>
                rw [hpar] at hE1
                simp only at hE1
                by_cases ht : typ = 0
                · rw [if_pos ht] at hE1
                  exact (Open_root0 cb mb name typ day w hsz hc0 hgood hday ht hlk L hlen (by omega) hpar).mono fun e w' hp => same 64 e w' (by decide) hE1 hp
                · rw [if_neg ht] at hE1
                  have hT : (openA L name typ day).typ = typ := by unfold openA; rw [hpar]
                  refine Open_root cb mb name typ day w hsz hc0 hgood hday (by omega) (by omega) ht hlk L hlen (by omega) hpar _ (fun W hb => ?_)
                  have := hadd hE1 W hb
                  rw [hT] at this
                  exact this
              | some u =>
                rw [hpar] at hE1
                simp only at hE1
                by_cases ht : typ = 0
                · rw [if_pos ht] at hE1
                  by_cases hm : mayE L u day = 0
                  · obtain ⟨p, hp, hfp, hn, _, _⟩ := may_ok hm
                    subst hn
                    have hT : (openA L name typ day).typ = p.typ := by unfold openA; rw [hpar]; simp [hfp]
                    refine Open_kid p.name cb mb name typ day w hsz hc0 hgood hday ht hlk L hlen (by omega) hpar _ (hmay p.name) hm (nb p.name) p.typ (fun W hb => ?_) (fun W hb => ?_) _ (fun W hb => ?_)
                    · have := (hkeep W hb).lookup p.name
                      rw [hfp] at this
                      exact this
                    · rw [cell_of_blk ((hkeep W hb).hN p hp)]; rfl
                    · have := hadd (by rw [hE1]; exact hm) W hb
                      rw [hT] at this
                      exact this
                  · exact (Open_may u cb mb name typ day w hsz hc0 hgood hday ht hlk L hlen (by omega) hpar _ (hmay u) hm).mono fun e w' hp => same _ e w' hm hE1 hp
                · rw [if_neg ht] at hE1
                  exact (Open_kid1 u cb mb name typ day w hsz hc0 hgood hday (by omega) (by omega) ht hlk L hlen (by omega) hpar).mono fun e w' hp => same 64 e w' (by decide) hE1 hp
    · exact (Open_day cb mb name typ day w hsz hc0 hgood hday).mono fun e w' hp => same 1 e w' (by decide) (by rw [hE1, if_pos (.inl hday)]) hp
end Go.Proofs.YtplocldnklccfaaGreatDoor
namespace Go.Proofs.YtplocldnklccfaaGreatDoor
open Go.RowKit
set_option linter.unusedVariables false
set_option linter.unusedSimpArgs false

/-- A row of accounts lies at a block's start. -/
structure RowA (w : World) (b : Nat) (L : List Acct) : Prop where
  lt : b < w.heap.size
  c0 : ∀ j (hj : j < L.length), w.cell? ⟨b, j * 4, none⟩ = some (.string L[j].name)
  c1 : ∀ j (hj : j < L.length), w.cell? ⟨b, j * 4 + 1, none⟩ = some (.int .i64 L[j].typ)
  c2 : ∀ j (hj : j < L.length), w.cell? ⟨b, j * 4 + 2, none⟩ = some (.int .i64 L[j].opened)
  c3 : ∀ j (hj : j < L.length), w.cell? ⟨b, j * 4 + 3, none⟩ = some (.bool L[j].closed)

theorem RowA.below {w w' : World} {b : Nat} {L : List Acct} (h : RowA w b L) (hb : Below w.heap.size w w') : RowA w' b L where
  lt := Nat.lt_of_lt_of_le h.lt hb.size
  c0 := fun j hj => (hb.cell (p := ⟨b, j * 4, none⟩) h.lt).trans (h.c0 j hj)
  c1 := fun j hj => (hb.cell (p := ⟨b, j * 4 + 1, none⟩) h.lt).trans (h.c1 j hj)
  c2 := fun j hj => (hb.cell (p := ⟨b, j * 4 + 2, none⟩) h.lt).trans (h.c2 j hj)
  c3 := fun j hj => (hb.cell (p := ⟨b, j * 4 + 3, none⟩) h.lt).trans (h.c3 j hj)

/-- The list's next account fits behind those ahead of it. -/
theorem take_fits {L : List Acct} (hv : Valid L) (k : Nat) (hk : k < L.length) :
    CanAdd (L.take k) L[k] ∧ insA L[k] (L.take k) = L.take (k + 1) ∧
    ∀ u, parentF L[k].name = some u → ∃ p ∈ L.take k, findA (L.take k) u = some p ∧ p.name = u ∧ p.typ = L[k].typ ∧ p.opened ≤ L[k].opened ∧ (p.closed = true → L[k].closed = true) := by
  have hle := hv.le
  have hmem : L[k] ∈ L := List.getElem_mem hk
  have hr : Rising (L.take k) := List.Pairwise.sublist (List.take_sublist k L) hv.rising
  have hlt : ∀ b ∈ L.take k, cmpB b.name L[k].name < 0 := fun b hb => by
    obtain ⟨j, hj, rfl⟩ := List.getElem_of_mem hb
    have hj' : j < k := by simp at hj; omega
    rw [List.getElem_take]
    exact rising_get hv.rising hk hj'
  have hup : ∀ u, parentF L[k].name = some u → ∃ p ∈ L.take k, p.name = u ∧ p.typ = L[k].typ ∧ p.opened ≤ L[k].opened ∧ (p.closed = true → L[k].closed = true) := fun u hu => by
    obtain ⟨p, hp, rfl, h1, h2, h3⟩ := hv.up _ hmem u hu
    refine ⟨p, ?_, rfl, h1, h2, h3⟩
    obtain ⟨j, hj, rfl⟩ := List.getElem_of_mem hp
    have hb := parent_below hu
    rcases Nat.lt_trichotomy j k with h | h | h
    · rw [List.mem_take_iff_getElem]
      exact ⟨j, by omega, rfl⟩
    · subst h; rw [cmp_self] at hb; omega
    · have := rising_get hv.rising hj h
      have := cmp_trans hb this
      rw [cmp_self] at this; omega
  have hnone : findA (L.take k) L[k].name = none := by
    unfold findA
    rw [List.find?_eq_none]
    intro b hb
    simpa using cmp_ne (hlt b hb)
  refine ⟨{ rising := hr, none_ := hnone, room := by simp; omega, up := fun u hu => ?_, nokid := fun b hb e => ?_, self := fun e => by have := parent_size e; omega, size := by have := hv.size hmem; omega }, ?_, fun u hu => ?_⟩
  · obtain ⟨p, hp, e, _⟩ := hup u hu
    exact ⟨p, hp, e⟩
  · have h1 := parent_below e
    have h2 := cmp_trans h1 (hlt b hb)
    rw [cmp_self] at h2; omega
  · have hl : (L.take k).length = k := by simp; omega
    rw [insA_at L[k] (L.take k) k (by omega) (fun j hj _ => hlt _ (List.getElem_mem hj)) (fun j hj h => by omega)]
    rw [List.take_of_length_le (by omega), List.drop_eq_nil_of_le (by omega), List.take_succ_eq_append_getElem hk]
  · obtain ⟨p, hp, e, h1, h2, h3⟩ := hup u hu
    exact ⟨p, hp, by rw [← e]; exact find_mem hr hp, e, h1, h2, h3⟩

theorem less_of_cmp {a b : ByteArray} (h : cmpB a b < 0) : Op.bytesLess a.toList b.toList = true := by
  have key : ∀ x y : List UInt8, Lib.compareBytes x y < 0 → Op.bytesLess x y = true := by
    intro x
    induction x with
    | nil =>
      intro y h
      cases y with
      | nil => simp [Lib.compareBytes] at h
      | cons c r => rfl
    | cons c r ih =>
      intro y h
      cases y with
      | nil => simp [Lib.compareBytes] at h
      | cons d q =>
        unfold Lib.compareBytes at h
        unfold Op.bytesLess
        by_cases h1 : c < d
        · simp [h1]
        · by_cases h2 : d < c
          · simp [h1, h2] at h
          · have e : c = d := by
              apply UInt8.toNat_inj.1
              simp [UInt8.lt_iff_toNat_lt] at h1 h2
              omega
            subst e
            simp at h
            simp [ih q h]
  rw [Lib.toList_data, Lib.toList_data]
  exact key _ _ h

end Go.Proofs.YtplocldnklccfaaGreatDoor
namespace Go.Proofs.YtplocldnklccfaaGreatDoor
open Go.RowKit
set_option linter.unusedVariables false
set_option linter.unusedSimpArgs false

/-- An account's cells. -/
def encA (a : Acct) : List Value := [.string a.name, .int .i64 a.typ, .int .i64 a.opened, .bool a.closed]
/-- A slice of accounts in a block of its own, or no block at all. -/
inductive AccRow (B : Nat) (w : World) (L : List Acct) : Value → Prop
  | nil (h : L = []) : AccRow B w L (.slice none 0 0)
  | row (b c : Nat) (hb : B ≤ b) (h : RowA w b L) : AccRow B w L (.slice (some ⟨b, 0, none⟩) L.length c)

theorem AccRow.below {B : Nat} {w w' : World} {L : List Acct} {v : Value} (h : AccRow B w L v) (hb : Below w.heap.size w w') : AccRow B w' L v := by
  cases h with
  | nil h => exact .nil h
  | row b c h1 h2 => exact .row b c h1 (h2.below hb)

def cellsA (l : List Acct) : List Value := l.flatMap encA
theorem cellsA_len (l : List Acct) : (cellsA l).length = l.length * 4 := by
  unfold cellsA
  induction l with
  | nil => rfl
  | cons a r ih => rw [List.flatMap_cons, List.length_append, ih]; show 4 + _ = _; simp; omega
theorem cellsA_get : ∀ (l : List Acct) (j : Nat) (hj : j < l.length) (c : Nat), c < 4 → (cellsA l)[j * 4 + c]? = (encA l[j])[c]?
  | [], j, hj, _, _ => by simp at hj
  | a :: r, 0, _, c, hc => by
    show (encA a ++ cellsA r)[0 * 4 + c]? = _
    rw [List.getElem?_append_left (by show _ < 4; omega)]
    simp
  | a :: r, j + 1, hj, c, hc => by
    show (encA a ++ cellsA r)[(j + 1) * 4 + c]? = _
    rw [List.getElem?_append_right (by show 4 ≤ _; omega)]
    have e : (j + 1) * 4 + c - (encA a).length = j * 4 + c := by show _ - 4 = _; omega
    rw [e, cellsA_get r j (by simpa using hj) c hc]
    rfl

theorem row_of_own {w : World} {B : Nat} {v : Value} {l : List Acct} {t : TypeId} (h : w.ownsRow B t 4 v l.length (cellsA l)) : (l = [] ∧ v = .slice none 0 0) ∨ ∃ g c, v = .slice (some ⟨g, 0, none⟩) l.length c ∧ B ≤ g ∧ RowA w g l ∧ ∀ i, w.frozen? ⟨g, i, none⟩ = false := by
  rcases h.2 with ⟨e, h0⟩ | ⟨g, cap, cur, e, hb, hg, r⟩
  · exact .inl ⟨List.eq_nil_of_length_eq_zero h0, e⟩
  · refine .inr ⟨g, cap, e, hb, ?_, fun i => ?_⟩
    · have hc : ∀ j (hj : j < l.length) c u, c < 4 → (encA l[j])[c]? = some u → w.cell? ⟨g, j * 4 + c, none⟩ = some u := fun j hj c u hc4 hu => by
        have := h.cells (g := g) (by rw [e]; rfl) (j * 4 + c) u (by rw [cellsA_get l j hj c hc4]; exact hu)
        rw [Addr.add_lit] at this
        simpa using this
      exact ⟨heap_lt hg, fun j hj => hc j hj 0 _ (by omega) rfl, fun j hj => hc j hj 1 _ (by omega) rfl, fun j hj => hc j hj 2 _ (by omega) rfl, fun j hj => hc j hj 3 _ (by omega) rfl⟩
    · simp [World.frozen?, hg]

theorem info_acc : (Tryz.prog.info? 159).map (fun i => (i.zero, i.size, i.bytes)) = some (some (.agg #[.string ByteArray.empty, .int .i64 0, .int .i64 0, .bool false]), 4, 40) := by kernel_rfl
theorem enc_new (W : World) (x : Acct) (t : TypeId) : ∀ j u, (encA x)[j]? = some u → (W.alloc (.cells #[.string x.name, .int .i64 x.typ, .int .i64 x.opened, .bool x.closed] t)).cell? ((⟨W.heap.size, 0, none⟩ : Addr).add j) = some u := by
  intro j u hu
  rw [Addr.add_lit, cell_of_blk (World.alloc_heap_new W _)]
  unfold encA at hu
  simpa using hu
end Go.Proofs.YtplocldnklccfaaGreatDoor
namespace Go.Proofs.YtplocldnklccfaaGreatDoor
open Go.RowKit Go.Shelf Go.Lib Go.Sort
set_option linter.unusedVariables false
set_option linter.unusedSimpArgs false

instance : Inhabited Acct := ⟨noA⟩
def cfA (a b : Acct) : Int := cmpB a.name b.name

theorem ltA (a b : Acct) : ltOf cfA a b = decide (cmpB a.name b.name < 0) := rfl
theorem cmp_neg_trans {a b c : ByteArray} (h1 : ¬ cmpB a b < 0) (h2 : ¬ cmpB b c < 0) : ¬ cmpB a c < 0 := by
  intro h
  by_cases e1 : a = b
  · subst e1; exact h2 h
  · rcases cmp_total e1 with h3 | h3
    · exact h1 h3
    · exact h2 (cmp_trans h3 h)
theorem swoA : SWO (ltOf cfA) where
  irrefl x := by rw [ltA, cmp_self]; rfl
  trans x y z h1 h2 := by rw [ltA] at *; simp only [decide_eq_true_eq] at *; exact cmp_trans h1 h2
  ntrans x y z h1 h2 := by rw [ltA] at *; simp only [decide_eq_false_iff_not] at *; exact cmp_neg_trans h1 h2

theorem isAggA (w : World) : (isAgg 159).run Tryz.prog w = .ok true w := by kernel_rfl
theorem sizeOfA (w : World) : (Go.sizeOf 159).run Tryz.prog w = .ok 4 w := by kernel_rfl

set_option maxHeartbeats 1000000 in
/-- The comparison of two accounts: in whatever world; two blocks are laid. -/
theorem accCmp (x y : Acct) (W : World) : Calls Tryz.prog 217 #[.agg #[.string x.name, .int .i64 x.typ, .int .i64 x.opened, .bool x.closed], .agg #[.string y.name, .int .i64 y.typ, .int .i64 y.opened, .bool y.closed]] W fun e w' => e = .returned (.int .i64 (cmpB x.name y.name)) ∧ ∃ q os', w' = grow (W.drewN q) os' := by
  have hcon := fun W' => Tryz.strings_Compare x.name y.name W'
  unfold cmpB
  generalize Lib.compareBytes x.name.data.toList y.name.data.toList = r at hcon ⊢
  go_enter Tryz.func217, Tryz.ntmps217
  go_wp2_with (go_at_call 218; refine (hcon _).mono ?_; rintro e w' ⟨rfl, rfl⟩)
  go_ret
  exact ⟨rfl, 0, _, by rw [alloc_eq_grow, alloc_eq_grow, grow_grow]; rfl⟩

theorem ch_sortWorld (enc : Acct → List Value) (k : Nat) (w : World) (blk off n : Nat) (d : Array Acct) (os : Array Obj) : Ch (fun i => i = blk) w (sortWorldK enc k w blk off n d os) := by
  unfold sortWorldK
  have h1 : Ch (fun i => i = blk) w (putRowK enc k (Sort.ahead w n) blk off d) := by
    refine ⟨rfl, rfl, rfl, ?_, fun i hi hn => ?_⟩
    · simp [putRowK, putRow, mapBlock, Sort.ahead]
    · simp [putRowK, putRow, mapBlock, Sort.ahead, Array.getElem?_modify, Ne.symm hn]
  exact h1.trans' ⟨rfl, rfl, rfl, by simp, fun i hi _ => by simp [grow, Array.getElem?_append, hi]⟩

theorem sort_shape (enc : Acct → List Value) (k : Nat) (w : World) (blk off n : Nat) (d : Array Acct) (os : Array Obj) (cs : Array Value) (t : TypeId) (h : w.heap[blk]? = some (.cells cs t (0, 0))) :
    ∃ cs', (sortWorldK enc k w blk off n d os).heap[blk]? = some (.cells cs' t (0, 0)) ∧ cs'.size = cs.size := by
  refine ⟨putCells id off (flatK enc k d) cs, ?_, by simp [putCells]⟩
  have hl : blk < w.heap.size := (Array.getElem?_eq_some_iff.1 h).1
  unfold sortWorldK
  rw [show (grow (putRowK enc k (Sort.ahead w n) blk off d) os).heap[blk]? = (putRowK enc k (Sort.ahead w n) blk off d).heap[blk]? from by
    simp [grow, Array.getElem?_append, putRowK, putRow, mapBlock, Sort.ahead, hl]]
  simp [putRowK, putRow, mapBlock, Sort.ahead, Array.getElem?_modify, h, onCells]

theorem sorted_list {L l : List Acct} (hp : l.Perm L) (hL : Rising L) {d' : Array Acct} (h1 : PermIn 0 l.length l.toArray d') (h2 : SortedIn (ltOf cfA) 0 l.length d') : d'.toList = L := by
  obtain ⟨hsz, _, hperm⟩ := h1
  have hls : l.toArray.size = l.length := by simp
  have e1 : d'.extract 0 l.length = d' := by rw [← hls, ← hsz]; exact Array.extract_size
  have e2 : l.toArray.extract 0 l.length = l.toArray := by rw [← hls]; exact Array.extract_size
  rw [e1, e2] at hperm
  have hp' : d'.toList.Perm L := hperm.trans hp
  refine rising_unique hp' hL ?_
  unfold Rising
  rw [List.pairwise_iff_getElem]
  intro i j hi hj hij
  have hi' : i < d'.size := by simpa using hi
  have hj' : j < d'.size := by simpa using hj
  have h := h2 i j (Nat.zero_le _) hij (by omega)
  rw [getElem!_pos d' j hj', getElem!_pos d' i hi', ltA] at h
  have hne : d'.toList[i].name ≠ d'.toList[j].name := fun e => by
    have := hL.inj (hp'.subset (List.getElem_mem hi)) (hp'.subset (List.getElem_mem hj)) e
    have hnd : d'.toList.Nodup := hp'.symm.nodup hL.nodup
    exact List.pairwise_iff_getElem.1 hnd i j hi hj hij this
  rcases cmp_total hne with h3 | h3
  · exact h3
  · simp only [decide_eq_false_iff_not] at h
    exact absurd h3 h

/-- The accounts of a row sorted: the list of accounts by rising name. -/
theorem sort_acc {L l : List Acct} (hp : l.Perm L) (hL : Rising L) (hle : L.length ≤ 100) (blk cap : Nat) (w : World) (hrow : RowA w blk l) (hfr : ∀ i, w.frozen? ⟨blk, i, none⟩ = false) :
    Calls Tryz.prog 216 #[.slice (some ⟨blk, 0, none⟩) l.length cap, .func (.func 217) #[] #[]] w fun e w' => e = .returned (.tuple #[]) ∧ RowA w' blk L ∧ Ch (fun i => i = blk) w w' ∧ ∀ cs t, w.heap[blk]? = some (.cells cs t (0, 0)) → ∃ cs', w'.heap[blk]? = some (.cells cs' t (0, 0)) ∧ cs'.size = cs.size := by
  have eg : ∀ args w, (callFunc 217 args).run Tryz.prog w = .ok (.enter 217 args) w := enters_of Tryz.func217 (by kernel_rfl) rfl
  have hH : HoldsK encA 4 w blk 0 l.toArray := by
    intro t ht
    have ht' : t < l.length * 4 := by simpa using ht
    refine ⟨?_, hfr _⟩
    rw [get_flatK encA 4 l.toArray t (by simpa using ht')]
    have hj : t / 4 < l.length := by omega
    rw [getElem!_pos l.toArray (t / 4) (by simpa using hj)]
    have e : 0 + t = t / 4 * 4 + t % 4 := by omega
    rw [e]
    have h4 : t % 4 = 0 ∨ t % 4 = 1 ∨ t % 4 = 2 ∨ t % 4 = 3 := by omega
    rcases h4 with h | h | h | h
    · rw [h]; exact hrow.c0 _ hj
    · rw [h]; exact hrow.c1 _ hj
    · rw [h]; exact hrow.c2 _ hj
    · rw [h]; exact hrow.c3 _ hj
  have hlen := hp.length_eq
  have h := AnyQ.slices_SortFunc Tryz.sortAcc 4 isAggA sizeOfA encA (fun _ => rfl) (fun x v hv => by simp [encA] at hv; rcases hv with rfl | rfl | rfl | rfl <;> rfl) cfA swoA 217 #[] blk 0 cap l.toArray w eg (fun _ _ _ _ x y => accCmp x y _) hH hrow.lt (by simp; omega)
  have hsz : l.toArray.size = l.length := by simp
  rw [hsz] at h
  refine h.mono ?_
  rintro e w' ⟨rfl, d', n, os, h1, h2, rfl⟩
  refine ⟨rfl, ?_, ch_sortWorld _ _ _ _ _ _ _ _, fun cs t h => sort_shape _ _ _ _ _ _ _ _ cs t h⟩
  have hd := sorted_list hp hL h1 h2
  have hds : d'.size = L.length := by rw [← hd]; simp
  have hh := holdsK_sortWorldK_c encA 4 w blk 0 l.toArray d' n os hH hrow.lt (by rw [hds]; simp [hlen])
  have hc : ∀ j (hj : j < L.length) c v, (encA L[j])[c]? = some v → (sortWorldK encA 4 w blk 0 n d' os).cell? ⟨blk, j * 4 + c, none⟩ = some v := fun j hj c v hv => by
    have := HoldsK.cells hh (fun _ => rfl) (i := j) (by omega) c v (by rw [getElem!_pos d' j (by omega)]; subst hd; simpa using hv)
    rw [Addr.add_lit] at this
    simpa using this
  exact ⟨Nat.lt_of_lt_of_le hrow.lt (ch_sortWorld encA 4 w blk 0 n d' os).size, fun j hj => hc j hj 0 _ rfl, fun j hj => hc j hj 1 _ rfl, fun j hj => hc j hj 2 _ rfl, fun j hj => hc j hj 3 _ rfl⟩
end Go.Proofs.YtplocldnklccfaaGreatDoor
namespace Go.Proofs.YtplocldnklccfaaGreatDoor
open Go.RowKit Go.Shelf
set_option linter.unusedVariables false
set_option linter.unusedSimpArgs false
attribute [local go_sem] Oper.semAt_some

/-- Marks of loops that have run out: blocks that hold no deferred call. -/
structure Marks (B : Nat) (ds : List Nat) (W : World) : Prop where
  nodup : ds.Nodup
  at_ : ∀ D ∈ ds, B ≤ D ∧ W.heap[D]? = some (.deferred (some []))

def marksOf (ds : List Nat) : List Deferred := ds.map fun D => { target := .collected D, args := #[] }

theorem Marks.kp {T : TypeId} {n₀ B : Nat} {ds : List Nat} {W W' : World} (h : Marks B ds W) (k : Kp T n₀ B W W') : Marks B ds W' :=
  ⟨h.nodup, fun D hD => ⟨(h.at_ D hD).1, k.same.same D _ (h.at_ D hD).1 (h.at_ D hD).2 rfl⟩⟩
theorem Marks.lt {B : Nat} {ds : List Nat} {W : World} (h : Marks B ds W) {D : Nat} (hD : D ∈ ds) : D < W.heap.size := heap_lt (h.at_ D hD).2

/-- A function leaves with such marks alone. -/
theorem leaves_marks {F : Fence} {n : Nat} {P : Program} {fn : Func} {tmps : Array Value} {R : Ending → World → Prop} {B : Nat} (hres : ∀ w, ∃ v, (results fn tmps).run P w = .ok v w)
    (hR : ∀ D w v, R (.returned v) w → B ≤ D → w.heap[D]? = some (.deferred (some [])) → R (.returned v) (w.putObj D (.deferred none))) :
    ∀ (ds : List Nat) (w : World), Marks B ds w → (∀ v, R (.returned v) w) → LeavesInM F n P fn tmps R (marksOf ds) .returning w
  | [], w, _, h => by
    obtain ⟨v, hv⟩ := hres w
    exact ⟨v, hv, h v⟩
  | D :: ds, w, hm, h => by
    obtain ⟨hB, hD⟩ := hm.at_ D (by simp)
    refine ⟨by simp, .inl ⟨D, _, rfl, run_takeDeferred hD, ?_⟩⟩
    refine leaves_marks hres hR ds _ ⟨(List.nodup_cons.1 hm.nodup).2, fun D' hD' => ?_⟩ fun v => hR D w v (h v) hB hD
    have hne : D' ≠ D := fun e => (List.nodup_cons.1 hm.nodup).1 (e ▸ hD')
    obtain ⟨h1, h2⟩ := hm.at_ D' (by simp [hD'])
    exact ⟨h1, (heap_putObj_other _ hne).trans h2⟩

theorem YieldAt.any {F : Fence} (hd : F.depth = none) {m : Nat} (m' : Nat) {P : Program} {l : Nat} {args : Array Value} {W : World} {R : Ending → World → Prop} (h : YieldAt F m P l args W R) : YieldAt F m' P l args W R := by
  obtain ⟨fn, tmps, assign, body, hy, hR⟩ := h
  exact ⟨fn, tmps, assign, body, hy, hR.1, fun c cs _ => hR.2 c cs (fun d h => by rw [hd] at h; cases h)⟩

/-- Between two rounds of the iterator's own loop. -/
structure SeqInv (J : List Acct → World → Prop) (W : World) (n₀ l0 : Nat) (pre : List Acct) (ds : List Nat) (wr : World) : Prop where
  j : J pre wr
  box : Boxed wr W.heap.size 238 (.func (.yield l0) #[] #[])
  bel : Below n₀ W wr
  marks : Marks W.heap.size ds wr
  size : W.heap.size ≤ wr.heap.size

theorem Marks.grown {B : Nat} {ds : List Nat} {X Y : World} {row : Option Nat} (h : Marks B ds X) (hg : X.grownBy Y row) (hr : ∀ D ∈ ds, some D ≠ row) : Marks B ds Y :=
  ⟨h.nodup, fun D hD => ⟨(h.at_ D hD).1, (hg.block D (h.lt hD) (hr D hD)).trans (h.at_ D hD).2⟩⟩

theorem seqInv_own {J : List Acct → World → Prop} {W : World} {n₀ l0 B : Nat} {ds : List Nat} {pre : List Acct} {a : Acct} (hJ : OwnFrom W.heap.size J) (hn : n₀ ≤ W.heap.size) (hB : W.heap.size ≤ B) (hds : ∀ D ∈ ds, D < B) :
    OwnFrom B (fun q W' => SeqInv J W n₀ l0 (pre ++ a :: q) ds W') := fun q X Y row h hg hr =>
  ⟨hJ _ X Y row h.j hg (fun r e => ⟨Nat.le_trans hB (hr r e).1, (hr r e).2⟩),
   boxed_own W.heap.size _ (fun (_ : Unit) => Value.func (.yield l0) #[] #[]) () X Y row h.box hg (fun r e => (hr r e).2),
   h.bel.grown hg (Nat.le_trans hn h.size) (fun k e => Nat.le_trans (Nat.le_trans hn hB) (hr k e).1),
   h.marks.grown hg (fun D hD e => by have := (hr D e.symm).1; have := hds D hD; omega), Nat.le_trans h.size hg.size⟩

set_option maxRecDepth 100000 in
set_option maxHeartbeats 4000000 in
theorem seq_step (F : Fence) (hd : F.depth = none) (hF : ∀ k, F.fn k) (hro : F.round = none) (n₀ : Nat) (L : List Acct) (nb : ByteArray → Nat) (kv : ByteArray → Value) (sub : Acct → List Acct) (l : List Acct) (hl : ∀ a ∈ l, a ∈ L) (hlen : l.length ≤ 100)
    (ih : ∀ a ∈ l, ∀ (Bt : Nat) (w : World), n₀ ≤ w.heap.size → Bt < w.heap.size → w.cell? ⟨Bt, 0, none⟩ = some (kv a.name) → ForestAt n₀ w nb kv L → It F Tryz.prog 248 #[.pointer (some ⟨Bt, 0, none⟩)] 238 accV n₀ (sub a) w)
    (Bt : Nat) (A : Option Addr) (c : Nat) (w : World) (hw : n₀ ≤ w.heap.size) (hBt : Bt < w.heap.size) (hB : w.cell? ⟨Bt, 0, none⟩ = some (.slice A l.length c)) (hrow : RowOK n₀ w nb (.slice A l.length c) l) (hf : ForestAt n₀ w nb kv L) :
    It F Tryz.prog 248 #[.pointer (some ⟨Bt, 0, none⟩)] 238 accV n₀ (l.flatMap fun a => a :: sub a) w := by
  intro l0 J Jx W hW hJ hJx hY h0 n
  have hdd : ∀ k : Nat, (F.depth.isSome = true → 1 ≤ k) := fun k h => by rw [hd] at h; cases h
  have hBW : W.cell? ⟨Bt, 0, none⟩ = some (.slice A l.length c) := (hW.cell (p := ⟨Bt, 0, none⟩) hBt).trans hB
  have hwW := hW.size
  have hWn : Below n₀ w W := hW.mono hw
  have hBtW : Bt < W.heap.size := by omega
  refine callsIn_of_wp_marks Tryz.func248 rfl (hF _) ?_ hro
  simp only [Tryz.ntmps248, List.size_toArray, List.length_cons, List.length_nil, Nat.reduceAdd, Nat.reduceSub, Array.replicate_succ, Array.replicate_zero, List.push_toArray, List.append_toArray, List.nil_append, List.cons_append]
  have hres : ∀ (tmps : Array Value) w, ∃ v, (results Tryz.f248 tmps).run Tryz.prog w = .ok v w := fun tmps w => ⟨_, by simp [results, Tryz.results248, go_sem]; rfl⟩
  have hst : ∀ (D : Nat) (w : World) (v : Value), ((∃ v', Ending.returned v = .returned v') ∧ (J (l.flatMap fun a => a :: sub a) w ∨ ∃ pre, pre <+: (l.flatMap fun a => a :: sub a) ∧ Jx pre w)) → W.heap.size ≤ D → w.heap[D]? = some (.deferred (some [])) →
      ((∃ v', Ending.returned v = .returned v') ∧ (J (l.flatMap fun a => a :: sub a) (w.putObj D (.deferred none)) ∨ ∃ pre, pre <+: (l.flatMap fun a => a :: sub a) ∧ Jx pre (w.putObj D (.deferred none)))) :=
    fun D w v h hB hD => ⟨h.1, h.2.imp (fun h => hJ.putObj _ h hB hD rfl) fun ⟨p, hp, h⟩ => ⟨p, hp, hJx.putObj _ h hB hD rfl⟩⟩
  gi_wp2
  refine wpIn_loop (fun a' wr => ∃ (k : Nat) (ds : List Nat) (u3 u4 u5 u9 u10 u11 u12 u13 u14 u15 u16 u17 u18 u19 u20 u21 u22 u23 u24 u25 u26 u27 u28 u29 : Value), SeqInv J W n₀ l0 (l.take k |>.flatMap fun a => a :: sub a) ds wr ∧ k ≤ l.length ∧ a' = { tmps := #[.func (.yield l0) #[] #[], .pointer (some ⟨Bt, 0, none⟩), .pointer (some ⟨W.heap.size, 0, none⟩), u3, u4, u5, .slice A l.length c, .int .i64 (l.length : Int), .int .i64 (k : Int), u9, u10, u11, u12, u13, u14, u15, u16, u17, u18, u19, u20, u21, u22, u23, u24, u25, u26, u27, u28, u29], defers := marksOf ds })
    (fun a' _ => l.length - (intOf (a'.tmps.getD 8 undef)).toNat) ?_ ?_
  · exact ⟨0, [], _, _, _, _, _, _, _, _, _, _, _, _, _, _, _, _, _, _, _, _, _, _, _, _, ⟨by simpa using hJ.alloc _ h0, Boxed.new _ _ _, (Below.refl _ _).alloc (by omega) _, ⟨by simp, by simp⟩, by simp⟩, Nat.zero_le _, rfl⟩
  · rintro a' wr ⟨k, ds, u3, u4, u5, u9, u10, u11, u12, u13, u14, u15, u16, u17, u18, u19, u20, u21, u22, u23, u24, u25, u26, u27, u28, u29, ⟨hJr, hbox, hbel, hmarks, hsz⟩, hk, rfl⟩
    by_cases hlt : k < l.length
    · obtain ⟨a, ha⟩ : ∃ a, a = l[k] := ⟨_, rfl⟩
      have haL : a ∈ L := hl a (ha ▸ List.getElem_mem hlt)
      have hfr := hf.below (hWn.trans hbel)
      obtain ⟨A', c', hAe, hcells⟩ := hrow.below (hWn.trans hbel)
      obtain ⟨rfl, rfl⟩ : A = A' ∧ c = c' := by simpa using hAe
      obtain ⟨ad, rfl, hadl, had⟩ := hcells k hlt
      rw [← ha] at had
      unfold ptrV at had
      have hcb := hbox.cell
      have n0 := hfr.c0 a haL
      have n1 := hfr.c1 a haL
      have n2 := hfr.c2 a haL
      have n3 := hfr.c3 a haL
      have hsplit : (l.flatMap fun a => a :: sub a) = ((l.take k).flatMap fun a => a :: sub a) ++ (a :: sub a) ++ (l.drop (k + 1)).flatMap fun a => a :: sub a := by
        conv => lhs; rw [← List.take_append_drop k l, List.drop_eq_getElem_cons hlt]
        rw [← ha]
        simp [List.flatMap_append, List.flatMap_cons]
      have hstep : (l.take (k + 1)).flatMap (fun a => a :: sub a) = ((l.take k).flatMap fun a => a :: sub a) ++ a :: sub a := by
        rw [List.take_succ_eq_append_getElem hlt, ← ha]
        simp [List.flatMap_append, List.flatMap_cons]
      have hpre : ((l.take k).flatMap fun a => a :: sub a) ++ [a] <+: l.flatMap fun a => a :: sub a := ⟨sub a ++ (l.drop (k + 1)).flatMap fun a => a :: sub a, by rw [hsplit]; simp⟩
      have hsub : ∀ q x, q ++ [x] <+: sub a → ((l.take k).flatMap fun a => a :: sub a) ++ a :: q ++ [x] <+: l.flatMap fun a => a :: sub a := fun q x ⟨t, ht⟩ => ⟨t ++ (l.drop (k + 1)).flatMap fun a => a :: sub a, by rw [hsplit, ← ht]; simp⟩
      have hstop : ∀ q, q <+: sub a → ((l.take k).flatMap fun a => a :: sub a) ++ a :: q <+: l.flatMap fun a => a :: sub a := fun q ⟨t, ht⟩ => ⟨t ++ (l.drop (k + 1)).flatMap fun a => a :: sub a, by rw [hsplit, ← ht]; simp⟩
      have HSUB := Lib.hid (And.intro hsub (And.intro hstop hstep))
      clear hsub hstop hstep hsplit
      have hJd := hJ _ _ wr.drew none hJr ⟨rfl, rfl, rfl, Nat.le_refl _, fun _ _ _ => rfl⟩ (fun r e => by cases e)
      obtain ⟨fn, tmps, assign, body, hy, hR⟩ := hY (n - 1) _ a wr.drew hJd hpre
      unfold accV at hy
      replace hR := hR.mono (R' := fun e W3 => ∃ b, e = .returned (.bool b) ∧ Hid (((b = true ∧ J (((l.take k).flatMap fun a => a :: sub a) ++ [a]) W3) ∨ (b = false ∧ Jx (((l.take k).flatMap fun a => a :: sub a) ++ [a]) W3)) ∧ Kp 238 n₀ W.heap.size wr.drew W3))
        (by rintro e W3 ⟨(⟨rfl, h⟩ | ⟨rfl, h⟩), hk3⟩; exact ⟨true, rfl, ⟨.inl ⟨rfl, h⟩, hk3⟩⟩; exact ⟨false, rfl, ⟨.inr ⟨rfl, h⟩, hk3⟩⟩)
      have HR := Lib.hid hR
      have hkd : Kp 238 n₀ W.heap.size wr wr.drew := (Kp.refl _ _ _ _).drew
      have HA := Lib.hid ha
      clear ha hR hAe hcells
      have hmx : Tryz.prog.follows .mixedOrders = true := by kernel_rfl
      gi_wp2
      gi_region_with_o (refine HR.out.mono ?_; rintro e W3 ⟨b, rfl, h3⟩)
      all_goals clear HR
      all_goals
        obtain ⟨h3, hk3⟩ := h3.out
        have hk3 := hkd.trans hk3
        have hm3 := hmarks.kp hk3
        cases b
        · have hx3 := h3.resolve_left (by simp)
          clear h3
          gi_wp2
          exact leaves_marks (hres _) hst ds _ hm3 fun v => ⟨⟨v, rfl⟩, .inr ⟨_, hpre, hx3.2⟩⟩
        · have hj3 := h3.resolve_right (by simp)
          clear h3
          have hb3 := hk3.box _ _ hbox
          have hbel3 := hbel.trans hk3.bel
          have hf3 := hf.below (hWn.trans hbel3)
          have n4 := hf3.c4 a haL
          obtain ⟨A4, c4, e4, _⟩ := (hf3.kids a haL).ex
          rw [e4] at n4
          gi_wp2_with ((try refine ⟨hdd _, ?_⟩); gi_at_call 215; refine (below_in F _ (hF _) hro _ _ _ _).mono ?_; rintro e w' ⟨rfl, rfl⟩)
          obtain ⟨W4, hW4⟩ : ∃ W4, W3.alloc (.cells #[.slice A4 (kidsA L a.name).length c4] 146) = W4 := ⟨_, rfl⟩
          have hs4 : W4.heap.size = W3.heap.size + 1 := by rw [← hW4]; simp
          have hs3 : W.heap.size ≤ W3.heap.size := Nat.le_trans hsz hk3.bel.size
          have hk4 : Kp 238 n₀ W.heap.size W3 W4 := by rw [← hW4]; exact Kp.alloc _ (by omega)
          have hj4 : J (((l.take k).flatMap fun a => a :: sub a) ++ [a]) W4 := by rw [← hW4]; exact hJ.alloc _ hj3.2
          have hc4 : W4.cell? ⟨W3.heap.size, 0, none⟩ = some (kv a.name) := by rw [← hW4, e4]; exact (Boxed.new W3 _ _).cell
          have hb4 := hk4.box _ _ hb3
          have hm4 := hm3.kp hk4
          have hbel4 := hbel3.trans hk4.bel
          have hml4 : ∀ D ∈ ds, D < W4.heap.size := fun D hD => hm4.lt hD
          have hit := ih a (HA.out ▸ List.getElem_mem hlt) W3.heap.size W4 (by omega) (by omega) hc4 (hf.below (hWn.trans hbel4))
          rw [hW4]
          refine wpIn_range_it (T := 238) (enc := accV) (n₀ := n₀) (ys := sub a) hd hro (gf := 248) (lb := #[.pointer (some ⟨W3.heap.size, 0, none⟩)]) rfl (hF _) (enters_of Tryz.func248 (by kernel_rfl) rfl) hit (by omega)
            (fun q W' => SeqInv J W n₀ l0 (((l.take k).flatMap fun a => a :: sub a) ++ a :: q) ds W')
            (fun q W' => Jx (((l.take k).flatMap fun a => a :: sub a) ++ a :: q) W' ∧ Marks W.heap.size ds W')
            (seqInv_own hJ (by omega) (by omega) hml4)
            (fun q X Y row h hg hr => ⟨hJx _ X Y row h.1 hg (fun r e => ⟨Nat.le_trans (by omega) (hr r e).1, (hr r e).2⟩), h.2.grown hg (fun D hD e => by have := (hr D e.symm).1; have := hml4 D hD; omega)⟩)
            ⟨hj4, hb4, hbel4, hm4, by omega⟩
            (fun x a' W' => ∃ Bx, W'.heap[Bx]? = some (.cells #[.string x.name, .int .i64 x.typ, .int .i64 x.opened, .bool x.closed] 159 (0, 0)) ∧ a' = { tmps := #[.func (.yield l0) #[] #[], .pointer (some ⟨Bt, 0, none⟩), .pointer (some ⟨W.heap.size, 0, none⟩), u3, .pointer (some ⟨nb a.name, 0, none⟩), .pointer (some ⟨Bx, 0, none⟩), .slice (some ad) l.length c, .int .i64 (l.length : Int), .int .i64 (k : Int), .bool true, .pointer (some (ad.add k)), .pointer (some ⟨nb a.name, 0, none⟩), .func (.yield l0) #[] #[], .pointer (some ⟨nb a.name, 0, none⟩), .pointer (some ⟨nb a.name, 0, none⟩), .pointer (some ⟨nb a.name, 0, none⟩), .agg #[.string a.name, .int .i64 a.typ, .int .i64 a.opened, .bool a.closed], .bool true, .bool false, .pointer (some ⟨nb a.name, 0, none⟩), .pointer (some ⟨nb a.name, 0, none⟩), .pointer (some ⟨nb a.name, 4, none⟩), .slice A4 (kidsA L a.name).length c4, .func (.func 248) #[] #[.pointer (some ⟨W3.heap.size, 0, none⟩)], accV x, u25, u26, u27, u28, u29], defers := [] })
            (fun x a' _ X Y row h hg hr => by
              obtain ⟨Bx, h1, h2⟩ := h
              refine ⟨Bx, (hg.block Bx (heap_lt h1) (fun e => ?_)).trans h1, h2⟩
              obtain ⟨_, o, ho, hc⟩ := hr Bx e.symm
              rw [h1] at ho; cases ho; cases hc)
            ?assign ?body ?done ?stop
          case assign =>
            intro l2 m q x W' K hs' hI hK
            unfold accV
            gi_wp2
            exact hK _ _ (Kp.alloc _ (by omega)) ⟨hJ.alloc _ hI.j, hI.box.alloc _, hI.bel.alloc (by omega) _, hI.marks.kp (Kp.alloc (T := 238) (n₀ := n₀) _ (by omega)), by simp; omega⟩ ⟨W'.heap.size, heap_alloc_new _ _, rfl⟩
          case body =>
            rintro l2 m q x a' W' hs' ⟨hjq, hbq, hbelq, hmq, hsq⟩ ⟨Bx, hBx, rfl⟩ hq
            obtain ⟨fn, tmps, assign, body, hy, hR⟩ := hY (m - 1) _ x W' hjq (HSUB.out.1 q x hq)
            unfold accV at hy ⊢
            have hcq := hbq.cell
            have x0 : W'.cell? ⟨Bx, 0, none⟩ = some (.string x.name) := by rw [cell_of_blk hBx]; rfl
            have x1 : W'.cell? ⟨Bx, 1, none⟩ = some (.int .i64 x.typ) := by rw [cell_of_blk hBx]; rfl
            have x2 : W'.cell? ⟨Bx, 2, none⟩ = some (.int .i64 x.opened) := by rw [cell_of_blk hBx]; rfl
            have x3 : W'.cell? ⟨Bx, 3, none⟩ = some (.bool x.closed) := by rw [cell_of_blk hBx]; rfl
            have HR := Lib.hid hR
            clear hR
            have hdd2 : ∀ k : Nat, ((F.inRound l2).depth.isSome = true → 1 ≤ k) := fun k h => by rw [show (F.inRound l2).depth = F.depth from rfl, hd] at h; cases h
            gi_wp2
            refine RoundIn.mono (show RoundIn (F.inRound l2) _ _ _ _ _ _ _ _ _ from HR.out) ?_
            clear HR hy
            rintro e W5 ⟨(⟨rfl, h5⟩ | ⟨rfl, h5⟩), hk5⟩
            · gi_wp2
              exact ⟨hk5.mono (by omega), by simpa using h5, hk5.box _ _ hbq, hbelq.trans hk5.bel, hmq.kp hk5, Nat.le_trans hsq hk5.bel.size⟩
            · gi_wp2
              exact ⟨hk5.mono (by omega), by simpa using h5, hmq.kp hk5⟩
          case done =>
            intro D W' hD ⟨hjq, hbq, hbelq, hmq, hsq⟩ hDd
            have hmD : Marks W.heap.size (D :: ds) W' := ⟨List.nodup_cons.2 ⟨fun h => by have := hml4 D h; omega, hmq.nodup⟩, fun D' hD' => by
              rcases List.mem_cons.1 hD' with rfl | hD'
              · exact ⟨by omega, hDd⟩
              · exact hmq.at_ D' hD'⟩
            gi_wp2
            exact ⟨⟨k + 1, D :: ds, _, _, _, _, _, _, _, _, _, _, _, _, _, _, _, _, _, _, _, _, _, _, _, _, ⟨by rw [HSUB.out.2.2]; exact hjq, hbq, hbelq, hmD, by omega⟩, by omega, rfl⟩, by simp [intOf]; omega⟩
          case stop =>
            rintro D q W' hD hq ⟨hx, hmk⟩ hDd
            have hmD : Marks W.heap.size (D :: ds) W' := ⟨List.nodup_cons.2 ⟨fun h => by have := hml4 D h; omega, hmk.nodup⟩, fun D' hD' => by
              rcases List.mem_cons.1 hD' with rfl | hD'
              · exact ⟨by omega, hDd⟩
              · exact hmk.at_ D' hD'⟩
            gi_wp2
            exact leaves_marks (hres _) hst (D :: ds) _ hmD fun v => ⟨⟨v, rfl⟩, .inr ⟨_, HSUB.out.2.1 q hq, hx⟩⟩
    · gi_wp2
      obtain rfl : k = l.length := by omega
      rw [List.take_length] at hJr
      exact leaves_marks (hres _) hst ds _ hmarks fun v => ⟨⟨v, rfl⟩, .inl hJr⟩

/-- The whole iterator, by how deep the accounts lie. -/
theorem seq_it (F : Fence) (hd : F.depth = none) (hF : ∀ k, F.fn k) (hro : F.round = none) (n₀ : Nat) (L : List Acct) (nb : ByteArray → Nat) (kv : ByteArray → Value) (B : Nat) (hlen : L.length ≤ 100)
    (hsz : ∀ a ∈ L, a.name.size ≤ B) (hkid : ∀ a ∈ L, ∀ b ∈ kidsA L a.name, a.name.size < b.name.size) :
    ∀ (d : Nat) (l : List Acct), (∀ a ∈ l, a ∈ L) → (∀ a ∈ l, B < a.name.size + d) → l.length ≤ 100 → ∀ (Bt : Nat) (v : Value) (w : World), n₀ ≤ w.heap.size → Bt < w.heap.size → w.cell? ⟨Bt, 0, none⟩ = some v → RowOK n₀ w nb v l → ForestAt n₀ w nb kv L →
      It F Tryz.prog 248 #[.pointer (some ⟨Bt, 0, none⟩)] 238 accV n₀ (preL L d l) w
  | 0, l, hl, hB, hll, Bt, v, w, hw, hBt, hv, hrow, hf => by
    have hnil : l = [] := by
      cases l with
      | nil => rfl
      | cons a r =>
        have h1 := hB a (by simp)
        have h2 := hsz a (hl a (by simp))
        omega
    subst hnil
    have hrow' := hrow
    obtain ⟨A, c, rfl, _⟩ := hrow'
    exact seq_step F hd hF hro n₀ L nb kv (fun _ => []) [] (by simp) (by simp) (by simp) Bt A c w hw hBt hv hrow hf
  | d + 1, l, hl, hB, hll, Bt, v, w, hw, hBt, hv, hrow, hf => by
    have hrow' := hrow
    obtain ⟨A, c, rfl, _⟩ := hrow'
    refine seq_step F hd hF hro n₀ L nb kv (fun a => preL L d (kidsA L a.name)) l hl hll (fun a ha Bt' w' hw' hBt' hv' hf' => ?_) Bt A c w hw hBt hv hrow hf
    have haL := hl a ha
    refine seq_it F hd hF hro n₀ L nb kv B hlen hsz hkid d (kidsA L a.name) (fun b hb => (List.mem_filter.1 hb).1) (fun b hb => ?_) ?_ Bt' (kv a.name) w' hw' hBt' hv' (hf'.kids a haL) hf'
    · have h1 := hB a ha
      have h2 := hkid a haL b hb
      omega
    · exact Nat.le_trans (List.length_filter_le _ _) hlen
end Go.Proofs.YtplocldnklccfaaGreatDoor
namespace Go.Proofs.YtplocldnklccfaaGreatDoor
open Go.RowKit Go.Shelf
set_option linter.unusedVariables false
set_option linter.unusedSimpArgs false
attribute [local go_sem] Oper.semAt_some

set_option maxRecDepth 100000 in
theorem Close_none (cb mb : Nat) (name : ByteArray) (w : World) (hlt : cb < w.heap.size) (hc0 : w.cell? ⟨cb, 0, none⟩ = some (.map (some mb)))
    (hlk : ∀ o, Sem.run Tryz.prog (Instr.lookup 145 (.map (some mb)) (.string name) false) (w.alloc o) = .ok (.pointer none) (w.alloc o)) :
    Calls Tryz.prog 152 #[.pointer (some ⟨cb, 0, none⟩), .string name] w fun e w' => e = .returned (.int .i64 61) ∧ Below w.heap.size w w' := by
  go_enter Tryz.func152, Tryz.ntmps152
  go_wp2
  refine bodyPost_ret (v := .int .i64 61) (by simp [results, Tryz.results152, go_sem]) rfl ⟨rfl, ?_⟩
  first | exact (Below.refl _ _).alloc (Nat.le_refl _) _ | exact ((Below.refl _ _).alloc (Nat.le_refl _) _).setCell (Nat.le_refl _) _

set_option maxRecDepth 100000 in
theorem Close_closed (cb mb nb : Nat) (name : ByteArray) (w : World) (hlt : cb < w.heap.size) (hln : nb < w.heap.size) (hc0 : w.cell? ⟨cb, 0, none⟩ = some (.map (some mb)))
    (hlk : ∀ o, Sem.run Tryz.prog (Instr.lookup 145 (.map (some mb)) (.string name) false) (w.alloc o) = .ok (.pointer (some ⟨nb, 0, none⟩)) (w.alloc o))
    (h3 : w.cell? ⟨nb, 3, none⟩ = some (.bool true)) :
    Calls Tryz.prog 152 #[.pointer (some ⟨cb, 0, none⟩), .string name] w fun e w' => e = .returned (.int .i64 63) ∧ Below w.heap.size w w' := by
  go_enter Tryz.func152, Tryz.ntmps152
  go_wp2
  refine bodyPost_ret (v := .int .i64 63) (by simp [results, Tryz.results152, go_sem]) rfl ⟨rfl, ?_⟩
  first | exact (Below.refl _ _).alloc (Nat.le_refl _) _ | exact ((Below.refl _ _).alloc (Nat.le_refl _) _).setCell (Nat.le_refl _) _

/-- What Close leaves where the account is open: ys: all that is below it. -/
def CloseEnd (ys : List Acct) (nb : Nat) (w : World) (e : Ending) (w' : World) : Prop :=
  (ys.all (·.closed) = false ∧ e = .returned (.int .i64 65) ∧ Below w.heap.size w w') ∨
  (ys.all (·.closed) = true ∧ e = .returned (.int .i64 0) ∧ Ch (fun k => k = nb) w w' ∧ ∀ cs t, w.heap[nb]? = some (.cells cs t (0, 0)) → w'.heap[nb]? = some (.cells (cs.setIfInBounds 3 (.bool true)) t (0, 0)))

set_option maxRecDepth 100000 in
set_option maxHeartbeats 4000000 in
theorem Close_open (F : Fence) (n : Nat) (hd : F.depth = none) (hF : ∀ k, F.fn k) (hro : F.round = none) (cb mb nb : Nat) (name : ByteArray) (ys : List Acct) (Ak : Option Addr) (nk ck : Nat) (w : World) (hlt : cb < w.heap.size) (hln : nb < w.heap.size) (hc0 : w.cell? ⟨cb, 0, none⟩ = some (.map (some mb)))
    (hlk : ∀ o, Sem.run Tryz.prog (Instr.lookup 145 (.map (some mb)) (.string name) false) (w.alloc o) = .ok (.pointer (some ⟨nb, 0, none⟩)) (w.alloc o))
    (h3 : w.cell? ⟨nb, 3, none⟩ = some (.bool false)) (hf3 : w.frozen? ⟨nb, 3, none⟩ = false) (h4 : w.cell? ⟨nb, 4, none⟩ = some (.slice Ak nk ck))
    (hit : ∀ (W : World) (Bt : Nat), Below w.heap.size w W → Bt < W.heap.size → W.cell? ⟨Bt, 0, none⟩ = some (.slice Ak nk ck) → It F Tryz.prog 248 #[.pointer (some ⟨Bt, 0, none⟩)] 238 accV w.heap.size ys W) :
    CallsIn F n Tryz.prog 152 #[.pointer (some ⟨cb, 0, none⟩), .string name] w (CloseEnd ys nb w) := by
  have HIT := Lib.hid hit
  clear hit
  have hdd : ∀ k : Nat, (F.depth.isSome = true → 1 ≤ k) := fun k h => by rw [hd] at h; cases h
  refine callsIn_of_wp_marks Tryz.func152 rfl (hF _) ?_ hro
  simp only [Tryz.ntmps152, List.size_toArray, List.length_cons, List.length_nil, Nat.reduceAdd, Nat.reduceSub, Array.replicate_succ, Array.replicate_zero, List.push_toArray, List.append_toArray, List.nil_append, List.cons_append]
  gi_wp2_with ((try refine ⟨hdd _, ?_⟩); gi_at_call 215; refine (below_in F _ (hF _) hro _ _ _ _).mono ?_; rintro e w' ⟨rfl, rfl⟩)
  have bR := (Boxed.new w 152 (.int .i64 0)).alloc (.cells #[.slice Ak nk ck] 146)
  have bL := Boxed.new (w.alloc (.cells #[.int .i64 0] 152)) 146 (.slice Ak nk ck)
  rw [World.size_alloc] at bL
  have hB0 : Below w.heap.size w ((w.alloc (.cells #[.int .i64 0] 152)).alloc (.cells #[.slice Ak nk ck] 146)) := ((Below.refl _ w).alloc (Nat.le_refl _) _).alloc (by simp) _
  have hsz : ((w.alloc (.cells #[.int .i64 0] 152)).alloc (.cells #[.slice Ak nk ck] 146)).heap.size = w.heap.size + 2 := by simp
  obtain ⟨W0, hW0⟩ : ∃ W0, (w.alloc (.cells #[.int .i64 0] 152)).alloc (.cells #[.slice Ak nk ck] 146) = W0 := ⟨_, rfl⟩
  rw [hW0] at bR bL hB0 hsz ⊢
  clear hW0 hlk
  refine wpIn_range_it (T := 238) (enc := accV) (n₀ := w.heap.size) (ys := ys) hd hro (gf := 248) (lb := #[.pointer (some ⟨w.heap.size + 1, 0, none⟩)]) rfl (hF _) (enters_of Tryz.func248 (by kernel_rfl) rfl)
    (HIT.out W0 (w.heap.size + 1) hB0 (by omega) bL.cell) (by omega)
    (fun pre W => (Boxed W w.heap.size 152 (.int .i64 0) ∧ pre.all (·.closed) = true) ∧ Below w.heap.size w W)
    (fun pre W => (Boxed W w.heap.size 152 (.int .i64 65) ∧ pre.all (·.closed) = false) ∧ Below w.heap.size w W)
    (OwnFrom.and (OwnFrom.and (Own.from (boxed_own _ _ _) _) (ownFrom_pure _ _)) (ownFrom_below (Nat.le_refl _) (by omega)))
    (OwnFrom.and (OwnFrom.and (Own.from (boxed_own _ _ _) _) (ownFrom_pure _ _)) (ownFrom_below (Nat.le_refl _) (by omega)))
    ⟨⟨bR, rfl⟩, hB0⟩
    (fun x a' W => ∃ Bx, W.heap[Bx]? = some (.cells #[.string x.name, .int .i64 x.typ, .int .i64 x.opened, .bool x.closed] 159 (0, 0)) ∧ a' = { tmps := #[.pointer (some ⟨cb, 0, none⟩), .string name, undef, undef, .pointer (some ⟨w.heap.size, 0, none⟩), .pointer (some ⟨nb, 0, none⟩), .pointer (some ⟨Bx, 0, none⟩), .pointer (some ⟨cb, 0, none⟩), .pointer (some ⟨cb, 0, none⟩), .pointer (some ⟨cb, 0, none⟩), .map (some mb), .string name, .pointer (some ⟨nb, 0, none⟩), .bool false, .pointer (some ⟨nb, 0, none⟩), .bool false, .bool false, .pointer (some ⟨nb, 0, none⟩), .pointer (some ⟨nb, 0, none⟩), .pointer (some ⟨nb, 0, none⟩), .pointer (some ⟨nb, 3, none⟩), .bool false, .pointer (some ⟨nb, 0, none⟩), .pointer (some ⟨nb, 0, none⟩), .pointer (some ⟨nb, 4, none⟩), .slice Ak nk ck, .func (.func 248) #[] #[.pointer (some ⟨w.heap.size + 1, 0, none⟩)], accV x, undef, undef, undef, undef, undef, undef, undef], defers := [] })
    (fun x a' _ X Y row h hg hr => by
      obtain ⟨Bx, h1, h2⟩ := h
      refine ⟨Bx, (hg.block Bx (heap_lt h1) (fun e => ?_)).trans h1, h2⟩
      obtain ⟨_, o, ho, hc⟩ := hr Bx e.symm
      rw [h1] at ho; cases ho; cases hc)
    ?assign ?body ?done ?stop
  case assign =>
    intro l2 m q x W' K hs' hI hK
    unfold accV
    gi_wp2
    exact hK _ _ (Kp.alloc _ (by omega)) ⟨⟨hI.1.1.alloc _, hI.1.2⟩, hI.2.alloc (by omega) _⟩ ⟨W'.heap.size, heap_alloc_new _ _, rfl⟩
  case body =>
    rintro l2 m q x a' W' hs' ⟨⟨hbR, hall⟩, hbel⟩ ⟨Bx, hBx, rfl⟩ hq
    unfold accV
    have x3 : W'.cell? ⟨Bx, 3, none⟩ = some (.bool x.closed) := by rw [cell_of_blk hBx]; rfl
    have hcR := hbR.cell
    have hfR := hbR.frozen
    cases hx : x.closed with
    | true =>
      rw [hx] at x3
      gi_wp2
      exact ⟨Kp.refl _ _ _ _, ⟨hbR, by simp [hall, hx]⟩, hbel⟩
    | false =>
      rw [hx] at x3
      gi_wp2
      exact ⟨Kp.setCell _ (Nat.le_refl _) (fun v hv => by have := (show W'.heap[w.heap.size]? = _ from hbR).symm.trans hv; injection this with this; injection this with h1 h2; exact absurd h2 (by decide)), ⟨hbR.set _, by simp [hall, hx]⟩, hbel.setCell (p := ⟨w.heap.size, 0, none⟩) (Nat.le_refl _) _⟩
  case done =>
    rintro D W' hD ⟨⟨hbR, hall⟩, hbel⟩ hDd
    have hcR := hbR.cell
    have hfR := hbR.frozen
    have hc3 := (hbel.cell (p := ⟨nb, 3, none⟩) hln).trans h3
    have hf3' := (hbel.frozen (p := ⟨nb, 3, none⟩) hln).trans hf3
    have hne : nb ≠ w.heap.size := by omega
    gi_wp2
    obtain ⟨W5, hW5⟩ : ∃ W5, (W'.setCell ⟨nb, 3, none⟩ (.bool true)).setCell ⟨w.heap.size, 0, none⟩ (.int .i64 0) = W5 := ⟨_, rfl⟩
    rw [hW5]
    have hD5 : W5.heap[D]? = some (.deferred (some [])) := by rw [← hW5]; exact ((KeepsOthers.setCell _ _ _).trans (KeepsOthers.setCell _ _ _)).same D _ hDd rfl
    have bR5 : Boxed W5 w.heap.size 152 (.int .i64 0) := by
      rw [← hW5]
      exact Boxed.set _ ((Below.heap_setCell W' ⟨nb, 3, none⟩ (.bool true) w.heap.size (Ne.symm hne)).trans hbR)
    have hc5 : (W5.putObj D (.deferred none)).cell? ⟨w.heap.size, 0, none⟩ = some (.int .i64 0) := (Boxed.kept bR5 (grownBy_putObj' W5 D _) (fun e => by injection e with e; omega)).cell
    refine ⟨by simp, .inl ⟨_, _, rfl, run_takeDeferred hD5, ?_⟩⟩
    refine ⟨.int .i64 0, by simp [results, Tryz.results152, go_sem, hc5], .inr ⟨hall, rfl, ?_, fun cs t ht => ?_⟩⟩
    · have c1 : Ch (fun k => k = nb) w W5 := by
        rw [← hW5]
        exact ((Ch.of_below (F := fun k => k = nb) hbel).setCell (p := ⟨nb, 3, none⟩) (.inl rfl) _).setCell (p := ⟨w.heap.size, 0, none⟩) (.inr (Nat.le_refl _)) _
      exact c1.putObj (.inr (by omega)) _
    · have h1 := heap_setCell_same ((hbel.block nb hln).trans ht) (i := 3) (.bool true)
      have h2 : W5.heap[nb]? = some (.cells (cs.setIfInBounds 3 (.bool true)) t (0, 0)) := by rw [← hW5]; exact (Below.heap_setCell _ ⟨w.heap.size, 0, none⟩ _ nb hne).trans h1
      exact (heap_putObj_other _ (by omega)).trans h2
  case stop =>
    rintro D q W' hD hq ⟨⟨hbR, hall⟩, hbel⟩ hDd
    gi_wp2
    have hc5 : (W'.putObj D (.deferred none)).cell? ⟨w.heap.size, 0, none⟩ = some (.int .i64 65) := (Boxed.kept hbR (grownBy_putObj' W' D _) (fun e => by injection e with e; omega)).cell
    refine ⟨by simp, .inl ⟨_, _, rfl, run_takeDeferred hDd, ?_⟩⟩
    refine ⟨.int .i64 65, by simp [results, Tryz.results152, go_sem, hc5], .inl ⟨?_, rfl, hbel.trans (belowK_b (w := w) (Nat.le_refl _) W' D _ _ (by omega) hDd rfl rfl)⟩⟩
    obtain ⟨t, ht⟩ := hq
    rw [← ht, List.all_append, hall]
    rfl

/-- What Close answers, and the accounts behind it. -/
def closeE (L : List Acct) (name : ByteArray) : Int :=
  match findA L name with
  | none => 61
  | some a => if a.closed then 63 else if (flatA L (kidsA L a.name)).all (·.closed) then 0 else 65
def shutA (n : ByteArray) (L : List Acct) : List Acct := L.map fun b => if b.name = n then { b with closed := true } else b
def closeL (L : List Acct) (name : ByteArray) : List Acct := if closeE L name = 0 then shutA name L else L

theorem shut_name (n : ByteArray) (L : List Acct) : (shutA n L).map (·.name) = L.map (·.name) := by
  unfold shutA
  rw [List.map_map]
  apply List.map_congr_left
  intro b _
  simp only [Function.comp]
  split <;> rfl
theorem mem_shut {n : ByteArray} {L : List Acct} {x : Acct} (h : x ∈ shutA n L) : ∃ b ∈ L, x.name = b.name ∧ x.typ = b.typ ∧ x.opened = b.opened ∧ x.closed = if b.name = n then true else b.closed := by
  obtain ⟨b, hb, rfl⟩ := List.mem_map.1 h
  refine ⟨b, hb, ?_⟩
  split <;> simp
theorem filter_shut (p : ByteArray → Bool) (n : ByteArray) (L : List Acct) : (shutA n L).filter (fun a => p a.name) = shutA n (L.filter fun a => p a.name) := by
  unfold shutA
  induction L with
  | nil => rfl
  | cons b r ih =>
    have e : (if b.name = n then { b with closed := true } else b).name = b.name := by split <;> rfl
    rw [List.map_cons, List.filter_cons, List.filter_cons, e, ih]
    split <;> simp
theorem find_shut (n k : ByteArray) (L : List Acct) : (findA (shutA n L) k) = (findA L k).map fun b => if b.name = n then { b with closed := true } else b := by
  unfold findA shutA
  induction L with
  | nil => rfl
  | cons b r ih =>
    have e : (if b.name = n then { b with closed := true } else b).name = b.name := by split <;> rfl
    rw [List.map_cons, List.find?_cons, List.find?_cons, e, ih]
    split <;> rfl
theorem map_shut {β : Type} (f : ByteArray → β) (n : ByteArray) (L : List Acct) : ((shutA n L).map fun a => f a.name) = L.map fun a => f a.name := by
  have := congrArg (List.map f) (shut_name n L)
  rw [List.map_map, List.map_map] at this
  exact this

/-- The chart of a list of which one account is closed. -/
theorem CR.shut {w w' : World} {F : Nat → Prop} {cb mb : Nat} {L : List Acct} {rv : Value} {nb : ByteArray → Nat} {kv : ByteArray → Value} {ps : List (ByteArray × Value)}
    (h : CR w F cb L mb rv nb kv ps) {a : Acct} (ha : a ∈ L) (hc : Ch (fun k => k = nb a.name) w w')
    (hn : ∀ cs t, w.heap[nb a.name]? = some (.cells cs t (0, 0)) → w'.heap[nb a.name]? = some (.cells (cs.setIfInBounds 3 (.bool true)) t (0, 0))) : CR w' F cb (shutA a.name L) mb rv nb kv ps := by
  have keep : ∀ k, k < w.heap.size → k ≠ nb a.name → w'.heap[k]? = w.heap[k]? := fun k hk hn => hc.block k hk hn
  have hk : ∀ n, kidsA (shutA a.name L) n = shutA a.name (kidsA L n) := fun n => filter_shut (fun x => decide (parentF x = some n)) a.name L
  have hr : rootsA (shutA a.name L) = shutA a.name (rootsA L) := filter_shut (fun x => decide (parentF x = none)) a.name L
  refine { hC := (keep cb (heap_lt h.hC) (h.cb_nb ha)).trans h.hC, hM := h.hM.keep (keep mb h.hM.lt (Ne.symm (h.nb_mb ha))), hps := ?_, hlen := ?_, le := ?_, hN := ?_, hK := ?_, hR := ?_, fC := h.fC, fM := h.fM, fN := ?_, fK := ?_, fR := h.fR, inj := ?_, dK := ?_, dR := ?_ }
  · intro k
    rw [h.hps, find_shut]
    cases findA L k with
    | none => rfl
    | some b =>
      simp only [Option.map_some]
      congr 2
      split <;> rfl
  · rw [h.hlen]; simp [shutA]
  · simpa [shutA] using h.le
  · intro x hx
    obtain ⟨b, hb, e1, e2, e3, e4⟩ := mem_shut hx
    rw [e1, e2, e3, e4]
    have hnb := h.hN b hb
    by_cases e : b.name = a.name
    · rw [if_pos e]
      rw [e] at hnb ⊢
      exact hn _ _ hnb
    · rw [if_neg e, keep _ (heap_lt hnb) (fun e' => e (h.inj b hb a ha e'))]
      exact hnb
  · intro x hx
    obtain ⟨b, hb, e1, _⟩ := mem_shut hx
    rw [e1, hk, map_shut (fun m => ptrV (nb m)), show (shutA a.name (kidsA L b.name)).length = (kidsA L b.name).length from by simp [shutA]]
    exact ownsRow_keep (h.hK b hb) fun k e => keep k ((h.hK b hb).lt k e).2 (fun e' => own_ne (h.hK b hb) (h.hN a ha) (by decide) (by rw [e, e']))
  · rw [hr, map_shut (fun m => ptrV (nb m)), show (shutA a.name (rootsA L)).length = (rootsA L).length from by simp [shutA]]
    exact ownsRow_keep h.hR fun k e => keep k (h.hR.lt k e).2 (fun e' => own_ne h.hR (h.hN a ha) (by decide) (by rw [e, e']))
  · intro x hx
    obtain ⟨b, hb, e1, _⟩ := mem_shut hx
    rw [e1]; exact h.fN b hb
  · intro x hx
    obtain ⟨b, hb, e1, _⟩ := mem_shut hx
    rw [e1]; exact h.fK b hb
  · intro x hx y hy
    obtain ⟨b, hb, e1, _⟩ := mem_shut hx
    obtain ⟨c, hc', e2, _⟩ := mem_shut hy
    rw [e1, e2]; exact h.inj b hb c hc'
  · intro x hx y hy
    obtain ⟨b, hb, e1, _⟩ := mem_shut hx
    obtain ⟨c, hc', e2, _⟩ := mem_shut hy
    rw [e1, e2]; exact h.dK b hb c hc'
  · intro x hx
    obtain ⟨b, hb, e1, _⟩ := mem_shut hx
    rw [e1]; exact h.dR b hb

theorem Close_any {w : World} {F : Nat → Prop} {cb : Nat} {L : List Acct} (h : ChartAt w F cb L) (hv : Valid L) (name : ByteArray) :
    Calls Tryz.prog 152 #[.pointer (some ⟨cb, 0, none⟩), .string name] w (MutPost F cb (closeL L name) (.int .i64 (closeE L name)) w) := by
  obtain ⟨mb, rv, nb, kv, ps, hcr⟩ := h
  have hlk := fun o => (hcr.keep (w' := w.alloc o) fun k _ hk => Below.heap_alloc w o k hk).lookup name
  have hc0 : w.cell? ⟨cb, 0, none⟩ = some (.map (some mb)) := by rw [cell_of_blk hcr.hC]; rfl
  have same : ∀ (n : Int) (e : Ending) (w' : World), n ≠ 0 → closeE L name = n → (e = .returned (.int .i64 n) ∧ Below w.heap.size w w') → MutPost F cb (closeL L name) (.int .i64 (closeE L name)) w e w' := fun n e w' hn hc ⟨h1, h2⟩ => by
    unfold closeL
    rw [hc, if_neg hn]
    exact ⟨h1, F, ChartAt.below ⟨mb, rv, nb, kv, ps, hcr⟩ h2, Ch.of_below h2, fun k hk => .inl hk⟩
  cases hf : findA L name with
  | none =>
    have hE : closeE L name = 61 := by unfold closeE; rw [hf]
    rw [hf] at hlk
    exact (Close_none cb mb name w (heap_lt hcr.hC) hc0 hlk).mono fun e w' hp => same 61 e w' (by decide) hE hp
  | some a =>
    rw [hf] at hlk
    obtain ⟨ha, rfl⟩ := findA_some hf
    have hn := hcr.hN a ha
    cases hcl : a.closed with
    | true =>
      have hE : closeE L a.name = 63 := by unfold closeE; rw [hf]; simp [hcl]
      exact (Close_closed cb mb (nb a.name) a.name w (heap_lt hcr.hC) (heap_lt hn) hc0 hlk (by rw [cell_of_blk hn]; simp [hcl])).mono fun e w' hp => same 63 e w' (by decide) hE hp
    | false =>
      obtain ⟨hfo, _⟩ := hcr.forest
      obtain ⟨Ak, ck, hkv, _⟩ := (hfo.kids a ha).ex
      have hrow := hfo.kids a ha
      have hc4 := hfo.c4 a ha
      rw [hkv] at hrow hc4
      have hB : ∀ b ∈ kidsA L a.name, 102 < b.name.size + 103 := fun b _ => by omega
      have hkl : (kidsA L a.name).length ≤ 100 := Nat.le_trans (List.length_filter_le _ _) hv.le
      have hit : ∀ (W : World) (Bt : Nat), Below w.heap.size w W → Bt < W.heap.size → W.cell? ⟨Bt, 0, none⟩ = some (.slice Ak (kidsA L a.name).length ck) → It Fence.wide Tryz.prog 248 #[.pointer (some ⟨Bt, 0, none⟩)] 238 accV w.heap.size (flatA L (kidsA L a.name)) W :=
        fun W Bt hb hBt hcell => seq_it Fence.wide rfl (fun _ => trivial) rfl w.heap.size L nb kv 102 hv.le (fun a ha => hv.size ha) hv.kid 103 (kidsA L a.name) (fun b hb => (List.mem_filter.1 hb).1) hB hkl Bt _ W hb.size hBt hcell (hrow.below hb) (hfo.below hb)
      refine ((callsIn_wide (n := 3)).1 (Close_open Fence.wide 3 rfl (fun _ => trivial) rfl cb mb (nb a.name) a.name _ Ak _ ck w (heap_lt hcr.hC) (heap_lt hn) hc0 hlk (by rw [cell_of_blk hn]; simp [hcl]) (frozen_of_row _ _ _ _ _ hn) hc4 hit)).mono ?_
      rintro e w' (⟨hall, h1, h2⟩ | ⟨hall, rfl, h2, h3⟩)
      · exact same 65 e w' (by decide) (by unfold closeE; rw [hf]; simp [hcl, hall]) ⟨h1, h2⟩
      · have hE : closeE L a.name = 0 := by unfold closeE; rw [hf]; simp [hcl, hall]
        unfold closeL
        rw [hE, if_pos rfl]
        exact ⟨rfl, F, ⟨mb, rv, nb, kv, ps, hcr.shut ha h2 h3⟩, h2.mono fun k e => by subst e; exact hcr.fN a ha, fun k hk => .inl hk⟩
end Go.Proofs.YtplocldnklccfaaGreatDoor
namespace Go.Proofs.YtplocldnklccfaaGreatDoor
open Go.RowKit
set_option linter.unusedVariables false
set_option linter.unusedSimpArgs false

section
variable {w : World} {B e s n : Nat} {v : Value} {xs : List Value}
/-- A row of one's own that has a block: its form. -/
theorem own_block (h : w.ownsRow B e s v n xs) {g : Nat} (hg : v.ownBlock = some g) : ∃ cap cur, v = .slice (some ⟨g, 0, none⟩) n cap ∧ B ≤ g ∧ w.heap[g]? = some (.cells cur e (0, 0)) ∧ n ≤ cap ∧ cap ≤ maxLen ∧ cur.size = cap * s ∧ cur.toList.take (n * s) = xs := by
  rcases h.2 with ⟨rfl, _⟩ | ⟨g', cap, cur, rfl, hb, hgg, h1, h2, h3, h4⟩
  · cases hg
  · obtain rfl : g' = g := Option.some.inj hg
    exact ⟨cap, cur, rfl, hb, hgg, h1, h2, h3, h4⟩
theorem own_set (h : w.ownsRow B e s v n xs) {g : Nat} (hg : v.ownBlock = some g) (j : Nat) (u : Value) : (w.setCell ⟨g, j, none⟩ u).ownsRow B e s v n (xs.set j u) := by
  obtain ⟨cap, cur, rfl, hb, hgg, h1, h2, h3, h4⟩ := own_block h hg
  refine ⟨by rw [List.length_set]; exact h.1, .inr ⟨g, cap, cur.setIfInBounds j u, rfl, hb, heap_setCell_same hgg u, h1, h2, by simpa using h3, ?_⟩⟩
  rw [Array.toList_setIfInBounds, List.take_set, h4]
theorem own_get (h : w.ownsRow B e s v n xs) {g : Nat} (hg : v.ownBlock = some g) (j : Nat) (hj : j < n * s) : w.cell? ⟨g, j, none⟩ = xs[j]? := by
  have hl := h.1
  have := h.cells hg j (xs[j]'(by omega)) (List.getElem?_eq_getElem (by omega))
  rw [Addr.add_lit] at this
  rw [List.getElem?_eq_getElem (by omega : j < xs.length)]
  simpa using this
theorem own_froz (h : w.ownsRow B e s v n xs) {g : Nat} (hg : v.ownBlock = some g) (j : Nat) : w.frozen? ⟨g, j, none⟩ = false := by
  obtain ⟨cap, cur, rfl, hb, hgg, _⟩ := own_block h hg
  simp [World.frozen?, hgg]
theorem own_base (h : w.ownsRow B e s v n xs) {B' : Nat} (hB : ∀ g, v.ownBlock = some g → B' ≤ g) : w.ownsRow B' e s v n xs := by
  refine ⟨h.1, ?_⟩
  rcases h.2 with h1 | ⟨g, cap, cur, rfl, hb, hgg, h1⟩
  · exact .inl h1
  · exact .inr ⟨g, cap, cur, rfl, hB g rfl, hgg, h1⟩
end
/-- The beginning of a row of one's own. -/
theorem own_head {w : World} {B e s n m c g : Nat} {xs ys : List Value} (h : w.ownsRow B e s (.slice (some ⟨g, 0, none⟩) (n + m) c) (n + m) (xs ++ ys)) (hx : xs.length = n * s) : w.ownsRow B e s (.slice (some ⟨g, 0, none⟩) n c) n xs := by
  obtain ⟨cap, cur, hv, hb, hgg, h1, h2, h3, h4⟩ := own_block h (g := g) rfl
  injection hv with _ _ hc
  subst hc
  refine ⟨hx, .inr ⟨g, c, cur, rfl, hb, hgg, by omega, h2, h3, ?_⟩⟩
  have := congrArg (List.take (n * s)) h4
  rw [List.take_take, Nat.min_eq_left (by rw [Nat.add_mul]; omega), List.take_append_of_le_length (by omega), List.take_of_length_le (l := xs) (by omega)] at this
  exact this
end Go.Proofs.YtplocldnklccfaaGreatDoor
