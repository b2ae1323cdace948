/- Open of a chart; What calls on a chart do to its list of accounts: in plain words. No program; The tree of a chart's accounts from the roots on; a name's path. No program; Good names in plain words: what stands above a good name is good; a scan of a name; its beginnings ahead of colons. No program; Path, Root, Under. -/
import Derived.Test.YtplocldnklccfaaGreatDoorPack3
import Derived.Test.YtplocldnklccfaaGreatDoorPack1
namespace Go.Proofs.YtplocldnklccfaaGreatDoor
open Go.RowKit
set_option linter.unusedVariables false
set_option linter.unusedSimpArgs false

theorem run_len_strmap {P : Program} {w : World} {b : Nat} {ps : List (ByteArray × Value)} (h : StrMap w b ps) {T K E : TypeId} (hT : P.underlying T = some (.map K E)) (ty : TypeId) :
    Sem.run P (Builtin.len_ #[T] ty #[.map (some b)]) w = .ok (.int .i64 ps.length) w := by
  obtain ⟨es, c, h1, h2⟩ := h
  have hl : es.size = ps.length := by have := congrArg List.length h2; simpa using this
  unfold Builtin.len_
  simp [run_underlying hT, MapKept.run_getObj_map h1, hl, goInt, Result.andThen]

set_option maxRecDepth 100000 in
theorem isDay_any (n : Int) (w : World) : Calls Tryz.prog 209 #[.int .i64 n] w fun e w' => e = .returned (.bool (decide (1 ≤ n ∧ n ≤ 3652059))) ∧ w' = w := by
  by_cases h1 : 1 ≤ n
  · by_cases h2 : n ≤ 3652059
    · go_enter Tryz.func209, Tryz.ntmps209
      go_wp2
      go_ret
      exact ⟨ret_bool (by simp [h1, h2]), rfl⟩
    · go_enter Tryz.func209, Tryz.ntmps209
      go_wp2
      go_ret
      exact ⟨ret_bool (by simp [h1, h2]), rfl⟩
  · go_enter Tryz.func209, Tryz.ntmps209
    go_wp2
    go_ret
    exact ⟨ret_bool (by simp; omega), rfl⟩

set_option maxRecDepth 100000 in
set_option maxHeartbeats 1000000 in
theorem Open_path (cb mb : Nat) (name : ByteArray) (typ day : Int) (w : World) (hsz : name.size ≤ 140737488355328) (hc0 : ∀ W : World, Below w.heap.size w W → W.cell? ⟨cb, 0, none⟩ = some (.map (some mb))) (hgood : goodB name.data.toList = false) :
    Calls Tryz.prog 150 #[.pointer (some ⟨cb, 0, none⟩), .string name, .int .i64 typ, .int .i64 day] w fun e w' => e = .returned (.int .i64 60) ∧ Below w.heap.size w w' := by
  have hp := Parent_any name w hsz
  have hg := fun W => Good_any name W (by unfold maxLen; omega)
  have hdd := fun W => isDay_any day W
  rw [hgood] at hg
  go_enter Tryz.func150, Tryz.ntmps150
  go_wp2_with (first | (go_at_call 10; refine hp.mono ?_; rintro e W1 ⟨rfl, hb1⟩) | (go_at_call 6; refine (hg _).mono ?_; rintro e W2 ⟨rfl, hb2⟩; have hB2 := hb1.trans (hb2.mono hb1.size)))
  go_ret
  exact ⟨rfl, hB2⟩

set_option maxRecDepth 100000 in
set_option maxHeartbeats 1000000 in
theorem Open_day (cb mb : Nat) (name : ByteArray) (typ day : Int) (w : World) (hsz : name.size ≤ 140737488355328) (hc0 : ∀ W : World, Below w.heap.size w W → W.cell? ⟨cb, 0, none⟩ = some (.map (some mb))) (hgood : goodB name.data.toList = true) (hday : ¬ (1 ≤ day ∧ day ≤ 3652059)) :
    Calls Tryz.prog 150 #[.pointer (some ⟨cb, 0, none⟩), .string name, .int .i64 typ, .int .i64 day] w fun e w' => e = .returned (.int .i64 1) ∧ Below w.heap.size w w' := by
  have hp := Parent_any name w hsz
  have hg := fun W => Good_any name W (by unfold maxLen; omega)
  have hdd := fun W => isDay_any day W
  rw [hgood] at hg
  have hd : decide (1 ≤ day ∧ day ≤ 3652059) = false := by simp [hday]
  rw [hd] at hdd
  clear hd
  clear hday
  go_enter Tryz.func150, Tryz.ntmps150
  go_wp2_with (first | (go_at_call 10; refine hp.mono ?_; rintro e W1 ⟨rfl, hb1⟩) | (go_at_call 6; refine (hg _).mono ?_; rintro e W2 ⟨rfl, hb2⟩; have hB2 := hb1.trans (hb2.mono hb1.size)) | (go_at_call 209; refine (hdd _).mono ?_; rintro e w' ⟨rfl, rfl⟩))
  go_ret
  exact ⟨rfl, hB2⟩

set_option maxRecDepth 100000 in
set_option maxHeartbeats 1000000 in
theorem Open_low (cb mb : Nat) (name : ByteArray) (typ day : Int) (w : World) (hsz : name.size ≤ 140737488355328) (hc0 : ∀ W : World, Below w.heap.size w W → W.cell? ⟨cb, 0, none⟩ = some (.map (some mb))) (hgood : goodB name.data.toList = true) (hday : 1 ≤ day ∧ day ≤ 3652059) (ht : typ < 0) :
    Calls Tryz.prog 150 #[.pointer (some ⟨cb, 0, none⟩), .string name, .int .i64 typ, .int .i64 day] w fun e w' => e = .returned (.int .i64 1) ∧ Below w.heap.size w w' := by
  have hp := Parent_any name w hsz
  have hg := fun W => Good_any name W (by unfold maxLen; omega)
  have hdd := fun W => isDay_any day W
  rw [hgood] at hg
  have hd : decide (1 ≤ day ∧ day ≤ 3652059) = true := by simp [hday]
  rw [hd] at hdd
  clear hd
  clear hday
  go_enter Tryz.func150, Tryz.ntmps150
  go_wp2_with (first | (go_at_call 10; refine hp.mono ?_; rintro e W1 ⟨rfl, hb1⟩) | (go_at_call 6; refine (hg _).mono ?_; rintro e W2 ⟨rfl, hb2⟩; have hB2 := hb1.trans (hb2.mono hb1.size)) | (go_at_call 209; refine (hdd _).mono ?_; rintro e w' ⟨rfl, rfl⟩))
  go_ret
  exact ⟨rfl, hB2⟩

set_option maxRecDepth 100000 in
set_option maxHeartbeats 1000000 in
theorem Open_high (cb mb : Nat) (name : ByteArray) (typ day : Int) (w : World) (hsz : name.size ≤ 140737488355328) (hc0 : ∀ W : World, Below w.heap.size w W → W.cell? ⟨cb, 0, none⟩ = some (.map (some mb))) (hgood : goodB name.data.toList = true) (hday : 1 ≤ day ∧ day ≤ 3652059) (ht0 : 0 ≤ typ) (ht : 5 < typ) :
    Calls Tryz.prog 150 #[.pointer (some ⟨cb, 0, none⟩), .string name, .int .i64 typ, .int .i64 day] w fun e w' => e = .returned (.int .i64 1) ∧ Below w.heap.size w w' := by
  have hp := Parent_any name w hsz
  have hg := fun W => Good_any name W (by unfold maxLen; omega)
  have hdd := fun W => isDay_any day W
  rw [hgood] at hg
  have hd : decide (1 ≤ day ∧ day ≤ 3652059) = true := by simp [hday]
  rw [hd] at hdd
  clear hd
  clear hday
  go_enter Tryz.func150, Tryz.ntmps150
  go_wp2_with (first | (go_at_call 10; refine hp.mono ?_; rintro e W1 ⟨rfl, hb1⟩) | (go_at_call 6; refine (hg _).mono ?_; rintro e W2 ⟨rfl, hb2⟩; have hB2 := hb1.trans (hb2.mono hb1.size)) | (go_at_call 209; refine (hdd _).mono ?_; rintro e w' ⟨rfl, rfl⟩))
  go_ret
  exact ⟨rfl, hB2⟩

set_option maxRecDepth 100000 in
set_option maxHeartbeats 1000000 in
theorem Open_there (nb : Nat) (cb mb : Nat) (name : ByteArray) (typ day : Int) (w : World) (hsz : name.size ≤ 140737488355328) (hc0 : ∀ W : World, Below w.heap.size w W → W.cell? ⟨cb, 0, none⟩ = some (.map (some mb))) (hgood : goodB name.data.toList = true) (hday : 1 ≤ day ∧ day ≤ 3652059) (ht0 : 0 ≤ typ) (ht : typ ≤ 5) (hlk : ∀ W : World, Below w.heap.size w W → Sem.run Tryz.prog (Instr.lookup 145 (.map (some mb)) (.string name) false) W = .ok (.pointer (some ⟨nb, 0, none⟩)) W) :
    Calls Tryz.prog 150 #[.pointer (some ⟨cb, 0, none⟩), .string name, .int .i64 typ, .int .i64 day] w fun e w' => e = .returned (.int .i64 62) ∧ Below w.heap.size w w' := by
  have hp := Parent_any name w hsz
  have hg := fun W => Good_any name W (by unfold maxLen; omega)
  have hdd := fun W => isDay_any day W
  rw [hgood] at hg
  have hd : decide (1 ≤ day ∧ day ≤ 3652059) = true := by simp [hday]
  rw [hd] at hdd
  clear hd
  have HC := Lib.hid hc0
  have HL := Lib.hid hlk
  clear hc0 hlk hday
  go_enter Tryz.func150, Tryz.ntmps150
  go_wp2_with (first | (go_at_call 10; refine hp.mono ?_; rintro e W1 ⟨rfl, hb1⟩) | (go_at_call 6; refine (hg _).mono ?_; rintro e W2 ⟨rfl, hb2⟩; have hB2 := hb1.trans (hb2.mono hb1.size); have hc := HC.out W2 hB2; have hl := HL.out W2 hB2) | (go_at_call 209; refine (hdd _).mono ?_; rintro e w' ⟨rfl, rfl⟩))
  go_ret
  exact ⟨rfl, hB2⟩

set_option maxRecDepth 100000 in
set_option maxHeartbeats 1000000 in
theorem Open_many (cb mb : Nat) (name : ByteArray) (typ day : Int) (w : World) (hsz : name.size ≤ 140737488355328) (hc0 : ∀ W : World, Below w.heap.size w W → W.cell? ⟨cb, 0, none⟩ = some (.map (some mb))) (hgood : goodB name.data.toList = true) (hday : 1 ≤ day ∧ day ≤ 3652059) (ht0 : 0 ≤ typ) (ht : typ ≤ 5) (hlk : ∀ W : World, Below w.heap.size w W → Sem.run Tryz.prog (Instr.lookup 145 (.map (some mb)) (.string name) false) W = .ok (.pointer none) W) (L : List Acct) (hlen : ∀ W : World, Below w.heap.size w W → Sem.run Tryz.prog (Builtin.len_ #[145] 3 #[.map (some mb)]) W = .ok (.int .i64 L.length) W) (hL : 100 ≤ L.length) :
    Calls Tryz.prog 150 #[.pointer (some ⟨cb, 0, none⟩), .string name, .int .i64 typ, .int .i64 day] w fun e w' => e = .returned (.int .i64 2) ∧ Below w.heap.size w w' := by
  have hp := Parent_any name w hsz
  have hg := fun W => Good_any name W (by unfold maxLen; omega)
  have hdd := fun W => isDay_any day W
  rw [hgood] at hg
  have hd : decide (1 ≤ day ∧ day ≤ 3652059) = true := by simp [hday]
  rw [hd] at hdd
  clear hd
  have HC := Lib.hid hc0
  have HL := Lib.hid hlk
  have HN := Lib.hid hlen
  clear hc0 hlk hlen hday
  go_enter Tryz.func150, Tryz.ntmps150
  go_wp2_with (first | (go_at_call 10; refine hp.mono ?_; rintro e W1 ⟨rfl, hb1⟩) | (go_at_call 6; refine (hg _).mono ?_; rintro e W2 ⟨rfl, hb2⟩; have hB2 := hb1.trans (hb2.mono hb1.size); have hc := HC.out W2 hB2; have hl := HL.out W2 hB2; have hn := HN.out W2 hB2) | (go_at_call 209; refine (hdd _).mono ?_; rintro e w' ⟨rfl, rfl⟩))
  go_ret
  exact ⟨rfl, hB2⟩

set_option maxRecDepth 100000 in
set_option maxHeartbeats 1000000 in
theorem Open_root0 (cb mb : Nat) (name : ByteArray) (typ day : Int) (w : World) (hsz : name.size ≤ 140737488355328) (hc0 : ∀ W : World, Below w.heap.size w W → W.cell? ⟨cb, 0, none⟩ = some (.map (some mb))) (hgood : goodB name.data.toList = true) (hday : 1 ≤ day ∧ day ≤ 3652059) (ht : typ = 0) (hlk : ∀ W : World, Below w.heap.size w W → Sem.run Tryz.prog (Instr.lookup 145 (.map (some mb)) (.string name) false) W = .ok (.pointer none) W) (L : List Acct) (hlen : ∀ W : World, Below w.heap.size w W → Sem.run Tryz.prog (Builtin.len_ #[145] 3 #[.map (some mb)]) W = .ok (.int .i64 L.length) W) (hL : L.length ≤ 99) (hpar : parentF name = none) :
    Calls Tryz.prog 150 #[.pointer (some ⟨cb, 0, none⟩), .string name, .int .i64 typ, .int .i64 day] w fun e w' => e = .returned (.int .i64 64) ∧ Below w.heap.size w w' := by
  have hp := Parent_any name w hsz
  have hg := fun W => Good_any name W (by unfold maxLen; omega)
  have hdd := fun W => isDay_any day W
  subst ht
  rw [hgood] at hg
  rw [hpar] at hp
  have hd : decide (1 ≤ day ∧ day ≤ 3652059) = true := by simp [hday]
  rw [hd] at hdd
  clear hd
  have HC := Lib.hid hc0
  have HL := Lib.hid hlk
  have HN := Lib.hid hlen
  clear hc0 hlk hlen hday
  go_enter Tryz.func150, Tryz.ntmps150
  go_wp2_with (first | (go_at_call 10; refine hp.mono ?_; rintro e W1 ⟨rfl, hb1⟩) | (go_at_call 6; refine (hg _).mono ?_; rintro e W2 ⟨rfl, hb2⟩; have hB2 := hb1.trans (hb2.mono hb1.size); have hc := HC.out W2 hB2; have hl := HL.out W2 hB2; have hn := HN.out W2 hB2) | (go_at_call 209; refine (hdd _).mono ?_; rintro e w' ⟨rfl, rfl⟩))
  go_ret
  exact ⟨rfl, hB2⟩

set_option maxRecDepth 100000 in
set_option maxHeartbeats 1000000 in
theorem Open_kid1 (u : ByteArray) (cb mb : Nat) (name : ByteArray) (typ day : Int) (w : World) (hsz : name.size ≤ 140737488355328) (hc0 : ∀ W : World, Below w.heap.size w W → W.cell? ⟨cb, 0, none⟩ = some (.map (some mb))) (hgood : goodB name.data.toList = true) (hday : 1 ≤ day ∧ day ≤ 3652059) (ht0 : 0 ≤ typ) (ht : typ ≤ 5) (ht1 : ¬ typ = 0) (hlk : ∀ W : World, Below w.heap.size w W → Sem.run Tryz.prog (Instr.lookup 145 (.map (some mb)) (.string name) false) W = .ok (.pointer none) W) (L : List Acct) (hlen : ∀ W : World, Below w.heap.size w W → Sem.run Tryz.prog (Builtin.len_ #[145] 3 #[.map (some mb)]) W = .ok (.int .i64 L.length) W) (hL : L.length ≤ 99) (hpar : parentF name = some u) :
    Calls Tryz.prog 150 #[.pointer (some ⟨cb, 0, none⟩), .string name, .int .i64 typ, .int .i64 day] w fun e w' => e = .returned (.int .i64 64) ∧ Below w.heap.size w w' := by
  have hp := Parent_any name w hsz
  have hg := fun W => Good_any name W (by unfold maxLen; omega)
  have hdd := fun W => isDay_any day W
  rw [hgood] at hg
  rw [hpar] at hp
  have hd : decide (1 ≤ day ∧ day ≤ 3652059) = true := by simp [hday]
  rw [hd] at hdd
  clear hd
  have HC := Lib.hid hc0
  have HL := Lib.hid hlk
  have HN := Lib.hid hlen
  clear hc0 hlk hlen hday
  have hbz : (typ == (0 : Int)) = false := by simpa using ht1
  go_enter Tryz.func150, Tryz.ntmps150
  go_wp2_with (first | (go_at_call 10; refine hp.mono ?_; rintro e W1 ⟨rfl, hb1⟩) | (go_at_call 6; refine (hg _).mono ?_; rintro e W2 ⟨rfl, hb2⟩; have hB2 := hb1.trans (hb2.mono hb1.size); have hc := HC.out W2 hB2; have hl := HL.out W2 hB2; have hn := HN.out W2 hB2) | (go_at_call 209; refine (hdd _).mono ?_; rintro e w' ⟨rfl, rfl⟩))
  go_ret
  exact ⟨rfl, hB2⟩

set_option maxRecDepth 100000 in
set_option maxHeartbeats 1000000 in
theorem Open_may (u : ByteArray) (cb mb : Nat) (name : ByteArray) (typ day : Int) (w : World) (hsz : name.size ≤ 140737488355328) (hc0 : ∀ W : World, Below w.heap.size w W → W.cell? ⟨cb, 0, none⟩ = some (.map (some mb))) (hgood : goodB name.data.toList = true) (hday : 1 ≤ day ∧ day ≤ 3652059) (ht : typ = 0) (hlk : ∀ W : World, Below w.heap.size w W → Sem.run Tryz.prog (Instr.lookup 145 (.map (some mb)) (.string name) false) W = .ok (.pointer none) W) (L : List Acct) (hlen : ∀ W : World, Below w.heap.size w W → Sem.run Tryz.prog (Builtin.len_ #[145] 3 #[.map (some mb)]) W = .ok (.int .i64 L.length) W) (hL : L.length ≤ 99) (hpar : parentF name = some u) (m : Int) (hm : ∀ W : World, Below w.heap.size w W → Calls Tryz.prog 154 #[.pointer (some ⟨cb, 0, none⟩), .string u, .int .i64 day] W fun e w' => e = .returned (.int .i64 m) ∧ W = w') (hm0 : ¬ m = 0) :
    Calls Tryz.prog 150 #[.pointer (some ⟨cb, 0, none⟩), .string name, .int .i64 typ, .int .i64 day] w fun e w' => e = .returned (.int .i64 m) ∧ Below w.heap.size w w' := by
  have hp := Parent_any name w hsz
  have hg := fun W => Good_any name W (by unfold maxLen; omega)
  have hdd := fun W => isDay_any day W
  subst ht
  rw [hgood] at hg
  rw [hpar] at hp
  have hd : decide (1 ≤ day ∧ day ≤ 3652059) = true := by simp [hday]
  rw [hd] at hdd
  clear hd
  have HC := Lib.hid hc0
  have HL := Lib.hid hlk
  have HN := Lib.hid hlen
  clear hc0 hlk hlen hday
  have HM := Lib.hid hm
  clear hm
  go_enter Tryz.func150, Tryz.ntmps150
  go_wp2_with (first | (go_at_call 10; refine hp.mono ?_; rintro e W1 ⟨rfl, hb1⟩) | (go_at_call 6; refine (hg _).mono ?_; rintro e W2 ⟨rfl, hb2⟩; have hB2 := hb1.trans (hb2.mono hb1.size); have hc := HC.out W2 hB2; have hl := HL.out W2 hB2; have hn := HN.out W2 hB2; have hM := HM.out W2 hB2) | (go_at_call 209; refine (hdd _).mono ?_; rintro e w' ⟨rfl, rfl⟩) | (go_at_call 154; refine hM.mono ?_; rintro e w' ⟨rfl, rfl⟩))
  go_ret
  exact ⟨rfl, hB2⟩

set_option maxRecDepth 100000 in
set_option maxHeartbeats 1000000 in
theorem Open_root (cb mb : Nat) (name : ByteArray) (typ day : Int) (w : World) (hsz : name.size ≤ 140737488355328) (hc0 : ∀ W : World, Below w.heap.size w W → W.cell? ⟨cb, 0, none⟩ = some (.map (some mb))) (hgood : goodB name.data.toList = true) (hday : 1 ≤ day ∧ day ≤ 3652059) (ht0 : 0 ≤ typ) (ht : typ ≤ 5) (ht1 : ¬ typ = 0) (hlk : ∀ W : World, Below w.heap.size w W → Sem.run Tryz.prog (Instr.lookup 145 (.map (some mb)) (.string name) false) W = .ok (.pointer none) W) (L : List Acct) (hlen : ∀ W : World, Below w.heap.size w W → Sem.run Tryz.prog (Builtin.len_ #[145] 3 #[.map (some mb)]) W = .ok (.int .i64 L.length) W) (hL : L.length ≤ 99) (hpar : parentF name = none) (Q : Ending → World → Prop) (hadd : ∀ W : World, Below w.heap.size w W → Calls Tryz.prog 210 #[.pointer (some ⟨cb, 0, none⟩), .agg #[.string name, .int .i64 typ, .int .i64 day, .bool false]] W fun e w' => e = .returned (.tuple #[]) ∧ Q (.returned (.int .i64 0)) w') :
    Calls Tryz.prog 150 #[.pointer (some ⟨cb, 0, none⟩), .string name, .int .i64 typ, .int .i64 day] w Q := by
  have hp := Parent_any name w hsz
  have hg := fun W => Good_any name W (by unfold maxLen; omega)
  have hdd := fun W => isDay_any day W
  rw [hgood] at hg
  rw [hpar] at hp
  have hd : decide (1 ≤ day ∧ day ≤ 3652059) = true := by simp [hday]
  rw [hd] at hdd
  clear hd
  have HC := Lib.hid hc0
  have HL := Lib.hid hlk
  have HN := Lib.hid hlen
  clear hc0 hlk hlen hday
  have hbz : (typ == (0 : Int)) = false := by simpa using ht1
  have HA := Lib.hid hadd
  clear hadd
  go_enter Tryz.func150, Tryz.ntmps150
  go_wp2_with (first | (go_at_call 10; refine hp.mono ?_; rintro e W1 ⟨rfl, hb1⟩) | (go_at_call 6; refine (hg _).mono ?_; rintro e W2 ⟨rfl, hb2⟩; have hB2 := hb1.trans (hb2.mono hb1.size); have hc := HC.out W2 hB2; have hl := HL.out W2 hB2; have hn := HN.out W2 hB2; have hA := HA.out W2 hB2) | (go_at_call 209; refine (hdd _).mono ?_; rintro e w' ⟨rfl, rfl⟩) | (go_at_call 210; refine hA.mono ?_; rintro e w' ⟨rfl, hq⟩))
  exact hq

set_option maxRecDepth 100000 in
set_option maxHeartbeats 1000000 in
theorem Open_kid (u : ByteArray) (cb mb : Nat) (name : ByteArray) (typ day : Int) (w : World) (hsz : name.size ≤ 140737488355328) (hc0 : ∀ W : World, Below w.heap.size w W → W.cell? ⟨cb, 0, none⟩ = some (.map (some mb))) (hgood : goodB name.data.toList = true) (hday : 1 ≤ day ∧ day ≤ 3652059) (ht : typ = 0) (hlk : ∀ W : World, Below w.heap.size w W → Sem.run Tryz.prog (Instr.lookup 145 (.map (some mb)) (.string name) false) W = .ok (.pointer none) W) (L : List Acct) (hlen : ∀ W : World, Below w.heap.size w W → Sem.run Tryz.prog (Builtin.len_ #[145] 3 #[.map (some mb)]) W = .ok (.int .i64 L.length) W) (hL : L.length ≤ 99) (hpar : parentF name = some u) (m : Int) (hm : ∀ W : World, Below w.heap.size w W → Calls Tryz.prog 154 #[.pointer (some ⟨cb, 0, none⟩), .string u, .int .i64 day] W fun e w' => e = .returned (.int .i64 m) ∧ W = w') (hm0 : m = 0) (pb : Nat) (pt : Int) (hlu : ∀ W : World, Below w.heap.size w W → Sem.run Tryz.prog (Instr.lookup 145 (.map (some mb)) (.string u) false) W = .ok (.pointer (some ⟨pb, 0, none⟩)) W) (hpt : ∀ W : World, Below w.heap.size w W → W.cell? ⟨pb, 1, none⟩ = some (.int .i64 pt)) (Q : Ending → World → Prop) (hadd : ∀ W : World, Below w.heap.size w W → Calls Tryz.prog 210 #[.pointer (some ⟨cb, 0, none⟩), .agg #[.string name, .int .i64 pt, .int .i64 day, .bool false]] W fun e w' => e = .returned (.tuple #[]) ∧ Q (.returned (.int .i64 0)) w') :
    Calls Tryz.prog 150 #[.pointer (some ⟨cb, 0, none⟩), .string name, .int .i64 typ, .int .i64 day] w Q := by
  have hp := Parent_any name w hsz
  have hg := fun W => Good_any name W (by unfold maxLen; omega)
  have hdd := fun W => isDay_any day W
  subst ht
  subst hm0
  rw [hgood] at hg
  rw [hpar] at hp
  have hd : decide (1 ≤ day ∧ day ≤ 3652059) = true := by simp [hday]
  rw [hd] at hdd
  clear hd
  have HC := Lib.hid hc0
  have HL := Lib.hid hlk
  have HN := Lib.hid hlen
  clear hc0 hlk hlen hday
  have HM := Lib.hid hm
  clear hm
  have HA := Lib.hid hadd
  clear hadd
  have HU := Lib.hid hlu
  have HT := Lib.hid hpt
  clear hlu hpt
  go_enter Tryz.func150, Tryz.ntmps150
  go_wp2_with (first | (go_at_call 10; refine hp.mono ?_; rintro e W1 ⟨rfl, hb1⟩) | (go_at_call 6; refine (hg _).mono ?_; rintro e W2 ⟨rfl, hb2⟩; have hB2 := hb1.trans (hb2.mono hb1.size); have hc := HC.out W2 hB2; have hl := HL.out W2 hB2; have hn := HN.out W2 hB2; have hM := HM.out W2 hB2; have hA := HA.out W2 hB2; have hU := HU.out W2 hB2; have hT := HT.out W2 hB2) | (go_at_call 209; refine (hdd _).mono ?_; rintro e w' ⟨rfl, rfl⟩) | (go_at_call 154; refine hM.mono ?_; rintro e w' ⟨rfl, rfl⟩) | (go_at_call 210; refine hA.mono ?_; rintro e w' ⟨rfl, hq⟩))
  exact hq

/-- What Open answers, and the accounts behind it. -/
def openE (L : List Acct) (name : ByteArray) (typ day : Int) : Int :=
  if goodB name.data.toList = false then 60
  else if ¬ (1 ≤ day ∧ day ≤ 3652059) ∨ typ < 0 ∨ 5 < typ then 1
  else if (findA L name).isSome then 62
  else if 100 ≤ L.length then 2
  else match parentF name with
    | none => if typ = 0 then 64 else 0
    | some u => if typ = 0 then mayE L u day else 64
def openA (L : List Acct) (name : ByteArray) (typ day : Int) : Acct := ⟨name, match parentF name with | none => typ | some u => ((findA L u).getD noA).typ, day, false⟩
def openL (L : List Acct) (name : ByteArray) (typ day : Int) : List Acct := if openE L name typ day = 0 then insA (openA L name typ day) L else L

theorem may_ok {L : List Acct} {u : ByteArray} {day : Int} (h : mayE L u day = 0) : ∃ p ∈ L, findA L u = some p ∧ p.name = u ∧ p.closed = false ∧ p.opened ≤ day := by
  unfold mayE at h
  cases hf : findA L u with
  | none => rw [hf] at h; simp at h
  | some p =>
    rw [hf] at h
    simp only at h
    obtain ⟨hp, hn⟩ := findA_some hf
    cases hc : p.closed with
    | true => rw [hc] at h; simp at h
    | false =>
      rw [hc] at h
      by_cases hd : day < p.opened
      · simp [hd] at h
      · exact ⟨p, hp, rfl, hn, hc, by omega⟩

theorem open_fits {L : List Acct} (hv : Valid L) {name : ByteArray} {typ day : Int} (h : openE L name typ day = 0) : Fits L (openA L name typ day) := by
  unfold openE at h
  split at h
  · cases h
  rename_i hg
  split at h
  · cases h
  rename_i ha
  split at h
  · cases h
  rename_i hf
  split at h
  · cases h
  rename_i hl
  have hg' : goodB name.data.toList = true := by simpa using hg
  have hf' : findA L name = none := by simpa using hf
  have hday : 1 ≤ day ∧ day ≤ 3652059 := Decidable.not_not.1 fun e => ha (.inl e)
  have ht : ¬ typ < 0 ∧ ¬ 5 < typ := ⟨fun e => ha (.inr (.inl e)), fun e => ha (.inr (.inr e))⟩
  refine { none_ := hf', room := by omega, good := hg', up := ?_, day := hday, typ := ?_ }
  · intro u hu
    rw [show (openA L name typ day).name = name from rfl] at hu
    rw [hu] at h
    simp only at h
    split at h
    · obtain ⟨p, hp, hfp, hn, hc, ho⟩ := may_ok h
      refine ⟨p, hp, hn, ?_, ho, fun e => by rw [hc] at e; cases e⟩
      unfold openA
      rw [hu]
      simp [hfp]
    · cases h
  · unfold openA
    cases hu : parentF name with
    | none =>
      rw [hu] at h
      simp only at h ⊢
      split at h
      · cases h
      · omega
    | some u =>
      rw [hu] at h
      simp only at h ⊢
      split at h
      · obtain ⟨p, hp, hfp, hn, hc, ho⟩ := may_ok h
        rw [hfp]
        exact hv.typ p hp
      · cases h

theorem open_valid {L : List Acct} (hv : Valid L) (name : ByteArray) (typ day : Int) : Valid (openL L name typ day) := by
  unfold openL
  split
  · rename_i h; exact (open_fits hv h).valid hv
  · exact hv

theorem Open_any {w : World} {F : Nat → Prop} {cb : Nat} {L : List Acct} (h : ChartAt w F cb L) (hv : Valid L) (name : ByteArray) (typ day : Int) (hsz : name.size ≤ 140737488355328) :
    Calls Tryz.prog 150 #[.pointer (some ⟨cb, 0, none⟩), .string name, .int .i64 typ, .int .i64 day] w (MutPost F cb (openL L name typ day) (.int .i64 (openE L name typ day)) w) := by
  have hcat := h
  obtain ⟨mb, rv, nb, kv, ps, hcr⟩ := h
  have hkeep : ∀ W : World, Below w.heap.size w W → CR W F cb L mb rv nb kv ps := fun W hb => hcr.keep fun k _ hk => hb.block k hk
  have hc0 : ∀ W : World, Below w.heap.size w W → W.cell? ⟨cb, 0, none⟩ = some (.map (some mb)) := fun W hb => by rw [cell_of_blk (hkeep W hb).hC]; rfl
  have hlk := fun (W : World) (hb : Below w.heap.size w W) => (hkeep W hb).lookup name
  have hlen : ∀ W : World, Below w.heap.size w W → Sem.run Tryz.prog (Builtin.len_ #[145] 3 #[.map (some mb)]) W = .ok (.int .i64 L.length) W := fun W hb => by
    rw [run_len_strmap (hkeep W hb).hM Tryz.underlying145, hcr.hlen]
  have hmay : ∀ u (W : World), Below w.heap.size w W → Calls Tryz.prog 154 #[.pointer (some ⟨cb, 0, none⟩), .string u, .int .i64 day] W fun e w' => e = .returned (.int .i64 (mayE L u day)) ∧ W = w' := fun u W hb => May_any ⟨mb, rv, nb, kv, ps, hkeep W hb⟩ u day
  have same : ∀ (n : Int) (e : Ending) (w' : World), n ≠ 0 → openE L name typ day = n → (e = .returned (.int .i64 n) ∧ Below w.heap.size w w') → MutPost F cb (openL L name typ day) (.int .i64 (openE L name typ day)) w e w' := fun n e w' hn hc ⟨h1, h2⟩ => by
    unfold openL
    rw [hc, if_neg hn]
    exact ⟨h1, F, hcat.below h2, Ch.of_below h2, fun k hk => .inl hk⟩
  have hadd : openE L name typ day = 0 → ∀ (W : World), Below w.heap.size w W → Calls Tryz.prog 210 #[.pointer (some ⟨cb, 0, none⟩), .agg #[.string name, .int .i64 (openA L name typ day).typ, .int .i64 day, .bool false]] W
      fun e w' => e = .returned (.tuple #[]) ∧ MutPost F cb (openL L name typ day) (.int .i64 (openE L name typ day)) w (.returned (.int .i64 0)) w' := fun hE W hb => by
    have hfit := open_fits hv hE
    refine (add_any (hcat.below hb) (hfit.can hv)).mono ?_
    rintro e w' ⟨h1, F', h2, h3, h4⟩
    refine ⟨h1, ?_⟩
    unfold openL
    rw [hE, if_pos rfl]
    exact ⟨rfl, F', h2, (Ch.of_below hb).trans' h3, fun k hk => (h4 k hk).imp_right fun h => ⟨Nat.le_trans hb.size h.1, h.2⟩⟩
  cases hgood : goodB name.data.toList with
  | false => exact (Open_path cb mb name typ day w hsz hc0 hgood).mono fun e w' hp => same 60 e w' (by decide) (by unfold openE; rw [if_pos hgood]) hp
  | true =>
    have hE1 : openE L name typ day = if ¬ (1 ≤ day ∧ day ≤ 3652059) ∨ typ < 0 ∨ 5 < typ then 1 else if (findA L name).isSome then 62 else if 100 ≤ L.length then 2 else match parentF name with | none => if typ = 0 then 64 else 0 | some u => if typ = 0 then mayE L u day else 64 := by
      unfold openE
      rw [if_neg (by rw [hgood]; simp)]
    by_cases hday : 1 ≤ day ∧ day ≤ 3652059
    · by_cases ht0 : typ < 0
      · exact (Open_low cb mb name typ day w hsz hc0 hgood hday ht0).mono fun e w' hp => same 1 e w' (by decide) (by rw [hE1, if_pos (.inr (.inl ht0))]) hp
      · by_cases ht5 : 5 < typ
        · exact (Open_high cb mb name typ day w hsz hc0 hgood hday (by omega) ht5).mono fun e w' hp => same 1 e w' (by decide) (by rw [hE1, if_pos (.inr (.inr ht5))]) hp
        · rw [if_neg (by rintro (h | h | h); exact h hday; exact ht0 h; exact ht5 h)] at hE1
          cases hf : findA L name with
          | some a =>
            simp only [hf] at hlk
            rw [hf] at hE1
            exact (Open_there (nb a.name) cb mb name typ day w hsz hc0 hgood hday (by omega) (by omega) hlk).mono fun e w' hp => same 62 e w' (by decide) (by rw [hE1]; rfl) hp
          | none =>
            simp only [hf] at hlk
            rw [hf] at hE1
            simp only [Option.isSome_none, Bool.false_eq_true, if_false] at hE1
            by_cases hL : 100 ≤ L.length
            · rw [if_pos hL] at hE1
              exact (Open_many cb mb name typ day w hsz hc0 hgood hday (by omega) (by omega) hlk L hlen hL).mono fun e w' hp => same 2 e w' (by decide) hE1 hp
            · rw [if_neg hL] at hE1
              cases hpar : parentF name with
              | none =>
                rw [hpar] at hE1
                simp only at hE1
                by_cases ht : typ = 0
                · rw [if_pos ht] at hE1
                  exact (Open_root0 cb mb name typ day w hsz hc0 hgood hday ht hlk L hlen (by omega) hpar).mono fun e w' hp => same 64 e w' (by decide) hE1 hp
                · rw [if_neg ht] at hE1
                  have hT : (openA L name typ day).typ = typ := by unfold openA; rw [hpar]
                  refine Open_root cb mb name typ day w hsz hc0 hgood hday (by omega) (by omega) ht hlk L hlen (by omega) hpar _ (fun W hb => ?_)
                  have := hadd hE1 W hb
                  rw [hT] at this
                  exact this
              | some u =>
                rw [hpar] at hE1
                simp only at hE1
                by_cases ht : typ = 0
                · rw [if_pos ht] at hE1
                  by_cases hm : mayE L u day = 0
                  · obtain ⟨p, hp, hfp, hn, _, _⟩ := may_ok hm
                    subst hn
                    have hT : (openA L name typ day).typ = p.typ := by unfold openA; rw [hpar]; simp [hfp]
                    refine Open_kid p.name cb mb name typ day w hsz hc0 hgood hday ht hlk L hlen (by omega) hpar _ (hmay p.name) hm (nb p.name) p.typ (fun W hb => ?_) (fun W hb => ?_) _ (fun W hb => ?_)
                    · have := (hkeep W hb).lookup p.name
                      rw [hfp] at this
                      exact this
                    · rw [cell_of_blk ((hkeep W hb).hN p hp)]; rfl
                    · have := hadd (by rw [hE1]; exact hm) W hb
                      rw [hT] at this
                      exact this
                  · exact (Open_may u cb mb name typ day w hsz hc0 hgood hday ht hlk L hlen (by omega) hpar _ (hmay u) hm).mono fun e w' hp => same _ e w' hm hE1 hp
                · rw [if_neg ht] at hE1
                  exact (Open_kid1 u cb mb name typ day w hsz hc0 hgood hday (by omega) (by omega) ht hlk L hlen (by omega) hpar).mono fun e w' hp => same 64 e w' (by decide) hE1 hp
    · exact (Open_day cb mb name typ day w hsz hc0 hgood hday).mono fun e w' hp => same 1 e w' (by decide) (by rw [hE1, if_pos (.inl hday)]) hp
end Go.Proofs.YtplocldnklccfaaGreatDoor
namespace Go.Proofs.YtplocldnklccfaaGreatDoor
open Go.RowKit
set_option linter.unusedVariables false
set_option linter.unusedSimpArgs false

theorem mem_flat_self {L l : List Acct} {a : Acct} (h : a ∈ l) : a ∈ flatA L l := List.mem_flatMap.2 ⟨a, h, List.mem_cons_self ..⟩

/-- What is told below a list whose accounts are closed is closed. -/
theorem flat_closed {L : List Acct} (hv : Valid L) : ∀ (d : Nat) (l : List Acct), (∀ a ∈ l, a ∈ L) → (∀ a ∈ l, a.closed = true) → ∀ x ∈ preL L d l, x.closed = true
  | 0, l, _, _, x, hx => by simp [preL] at hx
  | d + 1, l, hl, hc, x, hx => by
    obtain ⟨a, ha, hx⟩ := List.mem_flatMap.1 hx
    rcases List.mem_cons.1 hx with rfl | hx
    · exact hc _ ha
    · refine flat_closed hv d (kidsA L a.name) (fun b hb => (List.mem_filter.1 hb).1) (fun b hb => ?_) x hx
      obtain ⟨hbL, hbp⟩ := List.mem_filter.1 hb
      obtain ⟨p, hp, e, _, _, h3⟩ := hv.up b hbL a.name (by simpa using hbp)
      have : p = a := hv.rising.inj hp (hl a ha) e
      exact h3 (this ▸ hc a ha)

theorem flat_all {L : List Acct} (hv : Valid L) (n : ByteArray) : (flatA L (kidsA L n)).all (·.closed) = (kidsA L n).all (·.closed) := by
  rw [Bool.eq_iff_iff, List.all_eq_true, List.all_eq_true]
  constructor
  · intro h x hx
    exact h x (mem_flat_self hx)
  · intro h x hx
    exact flat_closed hv 103 _ (fun b hb => (List.mem_filter.1 hb).1) h x hx

theorem closeE_kids {L : List Acct} (hv : Valid L) (name : ByteArray) : closeE L name = match findA L name with
    | none => 61
    | some a => if a.closed then 63 else if (kidsA L name).all (·.closed) then 0 else 65 := by
  unfold closeE
  cases hf : findA L name with
  | none => rfl
  | some a =>
    obtain ⟨ha, rfl⟩ := findA_some hf
    simp only [flat_all hv]

theorem rising_shut {L : List Acct} (n : ByteArray) (h : Rising L) : Rising (shutA n L) := by
  unfold Rising shutA at *
  rw [List.pairwise_map]
  refine h.imp ?_
  intro a b hab
  have e : ∀ c : Acct, (if c.name = n then { c with closed := true } else c).name = c.name := fun c => by split <;> rfl
  rw [e, e]
  exact hab

theorem mem_shut_of {n : ByteArray} {L : List Acct} {b : Acct} (h : b ∈ L) : (if b.name = n then { b with closed := true } else b) ∈ shutA n L := List.mem_map.2 ⟨b, h, rfl⟩

theorem close_valid {L : List Acct} (hv : Valid L) (name : ByteArray) : Valid (closeL L name) := by
  unfold closeL
  split
  · rename_i hE
    rw [closeE_kids hv] at hE
    cases hf : findA L name with
    | none => rw [hf] at hE; simp at hE
    | some a =>
      rw [hf] at hE
      simp only at hE
      obtain ⟨ha, rfl⟩ := findA_some hf
      have hk : (kidsA L a.name).all (·.closed) = true := by
        split at hE
        · cases hE
        · split at hE
          · assumption
          · cases hE
      rw [List.all_eq_true] at hk
      refine ⟨rising_shut _ hv.rising, by unfold shutA; simpa using hv.le, fun x hx => ?_, fun x hx u hu => ?_, fun x hx => ?_, fun x hx => ?_⟩
      · obtain ⟨b, hb, e, _⟩ := mem_shut hx
        rw [e]; exact hv.good b hb
      · obtain ⟨b, hb, e1, e2, e3, e4⟩ := mem_shut hx
        rw [e1] at hu
        obtain ⟨p, hp, rfl, h1, h2, h3⟩ := hv.up b hb u hu
        refine ⟨_, mem_shut_of (n := a.name) hp, by split <;> rfl, by rw [e2, ← h1]; split <;> rfl, by rw [e3]; refine Int.le_trans (Int.le_of_eq ?_) h2; split <;> rfl, fun hc => ?_⟩
        rw [e4]
        by_cases hba : b.name = a.name
        · rw [if_pos hba]
        · rw [if_neg hba]
          by_cases hpa : p.name = a.name
          · exact hk b (List.mem_filter.2 ⟨hb, by rw [hu, hpa]; simp⟩)
          · rw [if_neg hpa] at hc
            exact h3 hc
      · obtain ⟨b, hb, _, _, e, _⟩ := mem_shut hx
        rw [e]; exact hv.day b hb
      · obtain ⟨b, hb, _, e, _, _⟩ := mem_shut hx
        rw [e]; exact hv.typ b hb
  · exact hv

/-- One act: a call's kind and what it is handed. -/
structure ActV where
  kind : Int
  typ : Int
  day : Int
  name : ByteArray

def actE (L : List Acct) (a : ActV) : Int := if a.kind = 1 then openE L a.name a.typ a.day else if a.kind = 2 then closeE L a.name else if a.kind = 3 then mayE L a.name a.day else 0
def actL (L : List Acct) (a : ActV) : List Acct := if a.kind = 1 then openL L a.name a.typ a.day else if a.kind = 2 then closeL L a.name else L
def playL (L : List Acct) (ac : List ActV) : List Acct := ac.foldl actL L

theorem act_valid {L : List Acct} (hv : Valid L) (a : ActV) : Valid (actL L a) := by
  unfold actL
  split
  · exact open_valid hv _ _ _
  · split
    · exact close_valid hv _
    · exact hv
theorem play_valid : ∀ (ac : List ActV) {L : List Acct}, Valid L → Valid (playL L ac)
  | [], _, h => h
  | a :: r, _, h => play_valid r (act_valid h a)
theorem playL_take (L : List Acct) (ac : List ActV) (k : Nat) (h : k < ac.length) : playL L (ac.take (k + 1)) = actL (playL L (ac.take k)) ac[k] := by
  unfold playL
  rw [List.take_succ_eq_append_getElem h, List.foldl_append]
  rfl

/-- A call that is refused changes nothing. -/
theorem act_refused (L : List Acct) (a : ActV) (h : actE L a ≠ 0 ∨ a.kind = 3) : actL L a = L := by
  unfold actE at h
  unfold actL openL closeL
  split
  · rename_i h1
    rw [if_pos h1] at h
    rw [if_neg]
    intro e
    rcases h with h | h
    · exact h e
    · omega
  · rename_i h1
    rw [if_neg h1] at h
    split
    · rename_i h2
      rw [if_pos h2] at h
      rw [if_neg]
      intro e
      rcases h with h | h
      · exact h e
      · omega
    · rfl
end Go.Proofs.YtplocldnklccfaaGreatDoor
namespace Go.Proofs.YtplocldnklccfaaGreatDoor
open Go.RowKit
set_option linter.unusedVariables false
set_option linter.unusedSimpArgs false

def namesA (l : List Acct) : List ByteArray := l.map (·.name)
theorem names_nodup {L : List Acct} (h : Rising L) : (namesA L).Nodup := by
  unfold namesA List.Nodup
  rw [List.pairwise_map]
  refine List.Pairwise.imp ?_ h
  intro a b hab e
  exact cmp_ne hab e

/-- The list of names seen so far, n of them asked for their kids. -/
structure Bfs (L : List Acct) (left : List ByteArray) (n : Nat) : Prop where
  le : n ≤ left.length
  nodup : left.Nodup
  mem : ∀ x ∈ left, x ∈ namesA L
  roots : ∀ a ∈ L, parentF a.name = none → a.name ∈ left
  kids : ∀ a ∈ L, ∀ u, parentF a.name = some u → (a.name ∈ left ↔ u ∈ left.take n)

theorem bfs_start {L : List Acct} (hv : Valid L) : Bfs L (namesA (rootsA L)) 0 where
  le := Nat.zero_le _
  nodup := names_nodup (rising_filter _ hv.rising)
  mem := fun x hx => by
    obtain ⟨a, ha, rfl⟩ := List.mem_map.1 hx
    exact List.mem_map.2 ⟨a, (List.mem_filter.1 ha).1, rfl⟩
  roots := fun a ha hu => List.mem_map.2 ⟨a, List.mem_filter.2 ⟨ha, by simp [hu]⟩, rfl⟩
  kids := fun a ha u hu => by
    constructor
    · intro h
      obtain ⟨b, hb, e⟩ := List.mem_map.1 h
      obtain ⟨_, hb⟩ := List.mem_filter.1 hb
      have hb : parentF b.name = none := by simpa using hb
      have e : b.name = a.name := e
      rw [e, hu] at hb
      cases hb
    · intro h
      simp at h

theorem take_snoc_mem {α : Type} {l : List α} {n : Nat} (hn : n < l.length) (m : List α) (x : α) : x ∈ (l ++ m).take (n + 1) ↔ x ∈ l.take n ∨ x = l[n] := by
  rw [List.take_append_of_le_length (by omega), List.take_succ_eq_append_getElem hn, List.mem_append, List.mem_singleton]

theorem not_mem_take {α : Type} {l : List α} (h : l.Nodup) {n : Nat} (hn : n < l.length) : l[n] ∉ l.take n := by
  intro hm
  rw [List.mem_take_iff_getElem] at hm
  obtain ⟨i, hi, e⟩ := hm
  exact List.pairwise_iff_getElem.1 h i n (by omega) hn (by omega) e

theorem bfs_step {L : List Acct} (hv : Valid L) {left : List ByteArray} {n : Nat} (h : Bfs L left n) (hn : n < left.length) :
    Bfs L (left ++ namesA (kidsA L left[n])) (n + 1) where
  le := by rw [List.length_append]; omega
  nodup := by
    rw [List.nodup_append]
    refine ⟨h.nodup, names_nodup (rising_filter _ hv.rising), ?_⟩
    intro x hx y hy e
    subst e
    obtain ⟨a, ha, rfl⟩ := List.mem_map.1 hy
    obtain ⟨haL, hp⟩ := List.mem_filter.1 ha
    have hp : parentF a.name = some left[n] := by simpa using hp
    exact not_mem_take h.nodup hn ((h.kids a haL _ hp).1 hx)
  mem := fun x hx => by
    rcases List.mem_append.1 hx with hx | hx
    · exact h.mem x hx
    · obtain ⟨a, ha, rfl⟩ := List.mem_map.1 hx
      exact List.mem_map.2 ⟨a, (List.mem_filter.1 ha).1, rfl⟩
  roots := fun a ha hu => List.mem_append.2 (.inl (h.roots a ha hu))
  kids := fun a ha u hu => by
    rw [take_snoc_mem hn, List.mem_append, h.kids a ha u hu]
    constructor
    · rintro (h1 | h1)
      · exact .inl h1
      · obtain ⟨b, hb, e⟩ := List.mem_map.1 h1
        obtain ⟨_, hp⟩ := List.mem_filter.1 hb
        have hp : parentF b.name = some left[n] := by simpa using hp
        have e : b.name = a.name := e
        rw [e, hu] at hp
        injection hp with hp
        exact .inr hp
    · rintro (h1 | h1)
      · exact .inl h1
      · exact .inr (List.mem_map.2 ⟨a, List.mem_filter.2 ⟨ha, by rw [hu, h1]; simp⟩, rfl⟩)

theorem bfs_len {L : List Acct} {left : List ByteArray} {n : Nat} (h : Bfs L left n) : left.length ≤ L.length := by
  have := h.nodup.length_le_of_subset (l₂ := namesA L) h.mem
  unfold namesA at this
  rwa [List.length_map] at this

theorem bfs_end {L : List Acct} (hv : Valid L) {left : List ByteArray} (h : Bfs L left left.length) : left.length = L.length := by
  have hall : ∀ m (a : Acct), a ∈ L → a.name.size = m → a.name ∈ left := by
    intro m
    induction m using Nat.strongRecOn with
    | _ m ih =>
      intro a ha hm
      cases hu : parentF a.name with
      | none => exact h.roots a ha hu
      | some u =>
        obtain ⟨p, hp, rfl, _⟩ := hv.up a ha u hu
        have := parent_size hu
        rw [h.kids a ha _ hu, List.take_of_length_le (Nat.le_refl _)]
        exact ih p.name.size (by omega) p hp rfl
  have h1 := bfs_len h
  have h2 := (names_nodup hv.rising).length_le_of_subset (l₂ := left) fun x hx => by
    obtain ⟨a, ha, rfl⟩ := List.mem_map.1 hx
    exact hall _ a ha rfl
  unfold namesA at h2
  rw [List.length_map] at h2
  omega

/-- A name and all above it. -/
def pathF : Nat → ByteArray → List ByteArray
  | 0, _ => []
  | d + 1, n => n :: match parentF n with
    | none => []
    | some u => pathF d u

theorem path_more : ∀ (d e : Nat) (n : ByteArray), n.size < d → d ≤ e → pathF d n = pathF e n
  | 0, _, _, h, _ => by omega
  | d + 1, 0, _, _, h => by omega
  | d + 1, e + 1, n, h, h' => by
    unfold pathF
    cases hp : parentF n with
    | none => rfl
    | some u =>
      have := parent_size hp
      simp only
      rw [path_more d e u (by omega) (by omega)]

/-- Is a name another one, or below it? -/
def underF (a b : ByteArray) : Bool := goodB a.data.toList && goodB b.data.toList && (decide (a = b) || (b.data.toList ++ [58]).isPrefixOf a.data.toList)

theorem ba_ext {a b : ByteArray} (h : a.data.toList = b.data.toList) : a = b := by
  cases a; cases b
  simp only [ByteArray.mk.injEq]
  exact Array.toList_inj.1 h

theorem last_idx {n : ByteArray} : (Lib.lastIndexByte n 58 = -1 ∧ (58 : UInt8) ∉ n.data.toList) ∨ ∃ (i : Nat) (hi : i < n.data.toList.length), Lib.lastIndexByte n 58 = i ∧ n.data.toList[i] = 58 ∧ ∀ j (hj : j < n.data.toList.length), i < j → n.data.toList[j] ≠ 58 := by
  have key : ∀ j (hj : j < n.data.toList.length), ((n.data[j]!).toNat : Int) = 58 ↔ n.data.toList[j] = 58 := fun j hj => by
    have hj' : j < n.data.size := by simpa using hj
    rw [getElem!_pos n.data j hj', Array.getElem_toList, ← UInt8.toNat_inj]
    show _ ↔ _ = 58
    omega
  rcases Lib.lastIndexByte_spec n 58 with ⟨e, h⟩ | ⟨i, hi, e, hc, hl⟩
  · refine .inl ⟨e, fun hm => ?_⟩
    obtain ⟨k, hk, e2⟩ := List.getElem_of_mem hm
    exact h k (by simpa using hk) ((key k hk).2 e2)
  · have hi' : i < n.data.toList.length := by simpa using hi
    exact .inr ⟨i, hi', e, (key i hi').1 hc, fun j hj h1 e2 => hl j h1 (by simpa using hj) ((key j hj).2 e2)⟩

/-- A name that has one above it: that one, a colon, and what holds no colon. -/
theorem parent_cut {n u : ByteArray} (h : parentF n = some u) : ∃ r, n.data.toList = u.data.toList ++ 58 :: r ∧ (58 : UInt8) ∉ r := by
  obtain ⟨_, i, hi, rfl, e⟩ := parent_some h
  rcases last_idx (n := n) with ⟨e', _⟩ | ⟨j, hj, e', hc, hl⟩
  · rw [e'] at e; omega
  · have hji : j = i := by rw [e'] at e; omega
    subst hji
    refine ⟨n.data.toList.drop (j + 1), ?_, ?_⟩
    · rw [extract0_list]
      conv => rhs; rw [← hc, List.getElem_cons_drop, List.take_append_drop]
    · intro hm
      obtain ⟨k, hk, e2⟩ := List.getElem_of_mem hm
      rw [List.getElem_drop] at e2
      exact hl _ _ (by omega) e2

theorem parent_none {n : ByteArray} (hg : goodB n.data.toList = true) (h : parentF n = none) : (58 : UInt8) ∉ n.data.toList := by
  rcases last_idx (n := n) with ⟨_, h'⟩ | ⟨j, hj, e', hc, hl⟩
  · exact h'
  · unfold parentF at h
    rw [if_pos ⟨hg, by omega⟩] at h
    cases h

theorem path_prefix : ∀ (d : Nat) (n b : ByteArray), b ∈ pathF d n → b = n ∨ (b.data.toList ++ [58]) <+: n.data.toList
  | 0, n, b, h => by simp [pathF] at h
  | d + 1, n, b, h => by
    unfold pathF at h
    rcases List.mem_cons.1 h with h | h
    · exact .inl h
    · cases hp : parentF n with
      | none => rw [hp] at h; simp at h
      | some u =>
        rw [hp] at h
        obtain ⟨r, e, _⟩ := parent_cut hp
        right
        rcases path_prefix d u b h with rfl | ⟨t, h⟩
        · exact ⟨r, by rw [e]; simp⟩
        · exact ⟨t ++ 58 :: r, by rw [e, ← h]; simp⟩

theorem prefix_path {L : List Acct} (hv : Valid L) : ∀ (d : Nat) (n b : ByteArray), n.size < d → n ∈ namesA L → (b = n ∨ (b.data.toList ++ [58]) <+: n.data.toList) → b ∈ pathF d n
  | 0, n, b, h, _, _ => by omega
  | d + 1, n, b, hd, hn, h => by
    unfold pathF
    rcases h with rfl | ⟨t, ht⟩
    · exact List.mem_cons_self ..
    · apply List.mem_cons_of_mem
      obtain ⟨a, ha, rfl⟩ := List.mem_map.1 hn
      cases hp : parentF a.name with
      | none =>
        exact absurd (by rw [← ht]; simp) (parent_none (hv.good a ha) hp)
      | some u =>
        obtain ⟨p, hpL, rfl, _⟩ := hv.up a ha u hp
        have hsz := parent_size hp
        refine prefix_path hv d p.name b (by omega) (List.mem_map.2 ⟨p, hpL, rfl⟩) ?_
        obtain ⟨r, e, hr⟩ := parent_cut hp
        have he : b.data.toList ++ 58 :: t = p.name.data.toList ++ 58 :: r := by
          rw [← e, ← ht]; simp
        rcases Nat.lt_trichotomy b.data.toList.length p.name.data.toList.length with hl | hl | hl
        · right
          have := congrArg (List.take (b.data.toList.length + 1)) he
          rw [List.take_append_of_le_length (l₁ := p.name.data.toList) (by omega)] at this
          refine ⟨p.name.data.toList.drop (b.data.toList.length + 1), ?_⟩
          have e3 : List.take (b.data.toList.length + 1) (b.data.toList ++ 58 :: t) = b.data.toList ++ [58] := by
            rw [List.take_append, List.take_of_length_le (by omega)]
            simp
          rw [e3] at this
          rw [this, List.take_append_drop]
        · left
          exact ba_ext (List.append_inj_left he hl)
        · exfalso
          have h1 : (b.data.toList ++ 58 :: t)[b.data.toList.length]? = some 58 := by simp
          rw [he, List.getElem?_append_right (by omega)] at h1
          obtain ⟨k, hk⟩ : ∃ k, b.data.toList.length - p.name.data.toList.length = k + 1 := ⟨b.data.toList.length - p.name.data.toList.length - 1, by omega⟩
          rw [hk, List.getElem?_cons_succ] at h1
          exact hr (List.mem_of_getElem? h1)

theorem path_names {L : List Acct} (hv : Valid L) : ∀ (d : Nat) (n : ByteArray), n ∈ namesA L → ∀ b ∈ pathF d n, b ∈ namesA L
  | 0, n, _, b, h => by simp [pathF] at h
  | d + 1, n, hn, b, h => by
    unfold pathF at h
    rcases List.mem_cons.1 h with rfl | h
    · exact hn
    · obtain ⟨a, ha, rfl⟩ := List.mem_map.1 hn
      cases hp : parentF a.name with
      | none => rw [hp] at h; simp at h
      | some u =>
        rw [hp] at h
        obtain ⟨p, hpL, rfl, _⟩ := hv.up a ha u hp
        exact path_names hv d p.name (List.mem_map.2 ⟨p, hpL, rfl⟩) b h

/-- A name is under just those of its path. -/
theorem path_under {L : List Acct} (hv : Valid L) {a b : Acct} (ha : a ∈ L) (hb : b ∈ L) : (pathF 103 a.name).any (fun x => decide (x = b.name)) = underF a.name b.name := by
  have hsz := hv.size ha
  unfold underF
  rw [hv.good a ha, hv.good b hb, Bool.true_and, Bool.true_and, Bool.eq_iff_iff]
  simp only [decide_eq_true_eq, Bool.or_eq_true, List.isPrefixOf_iff_prefix, List.any_eq_true, exists_eq_right]
  constructor
  · intro h
    rcases path_prefix _ _ _ h with h | h
    · exact .inl h.symm
    · exact .inr h
  · rintro (h | h)
    · exact prefix_path hv 103 _ _ (by omega) (List.mem_map.2 ⟨a, ha, rfl⟩) (.inl h.symm)
    · exact prefix_path hv 103 _ _ (by omega) (List.mem_map.2 ⟨a, ha, rfl⟩) (.inr h)

/-- Along a path the types are one, and what stands above a closed account's... : closed goes down. -/
theorem path_types {L : List Acct} (hv : Valid L) : ∀ (d : Nat) (a b : Acct), a ∈ L → b ∈ L → b.name ∈ pathF d a.name → b.typ = a.typ ∧ (b.closed = true → a.closed = true)
  | 0, a, b, _, _, h => by simp [pathF] at h
  | d + 1, a, b, ha, hb, h => by
    unfold pathF at h
    rcases List.mem_cons.1 h with h | h
    · have : b = a := hv.rising.inj hb ha h
      subst this
      exact ⟨rfl, id⟩
    · cases hp : parentF a.name with
      | none => rw [hp] at h; simp at h
      | some u =>
        rw [hp] at h
        obtain ⟨p, hpL, rfl, h1, _, h3⟩ := hv.up a ha u hp
        obtain ⟨e1, e2⟩ := path_types hv d p b hpL hb h
        exact ⟨e1.trans h1, fun hc => h3 (e2 hc)⟩

/-- What stands ahead of the first colon. -/
def rootF (n : ByteArray) : ByteArray := ⟨(n.data.toList.takeWhile (fun c => decide (c ≠ 58))).toArray⟩

theorem first_of_mem : ∀ {l : List UInt8}, (58 : UInt8) ∈ l → ∃ s t, l = s ++ 58 :: t ∧ (58 : UInt8) ∉ s
  | [], h => by simp at h
  | a :: r, h => by
    by_cases ha : a = 58
    · exact ⟨[], r, by rw [ha]; rfl, by simp⟩
    · obtain ⟨s, t, e, hs⟩ := first_of_mem (l := r) (by
        rcases List.mem_cons.1 h with h | h
        · exact absurd h.symm ha
        · exact h)
      exact ⟨a :: s, t, by rw [e]; rfl, by
        intro hm
        rcases List.mem_cons.1 hm with hm | hm
        · exact ha hm.symm
        · exact hs hm⟩
theorem takeWhile_cut {m r : List UInt8} (h : (58 : UInt8) ∉ m) : (m ++ 58 :: r).takeWhile (fun c => decide (c ≠ 58)) = m := by
  rw [List.takeWhile_append_of_pos]
  · simp
  · intro c hc
    have : c ≠ 58 := fun e => h (e ▸ hc)
    simpa using this
theorem takeWhile_all {m : List UInt8} (h : (58 : UInt8) ∉ m) : m.takeWhile (fun c => decide (c ≠ 58)) = m := by
  induction m with
  | nil => rfl
  | cons a r ih =>
    have ha : a ≠ 58 := fun e => h (by rw [e]; simp)
    rw [List.takeWhile_cons, if_pos (by simpa using ha), ih (fun e => h (List.mem_cons_of_mem _ e))]

theorem root_of_parent {n u : ByteArray} (h : parentF n = some u) : rootF n = rootF u := by
  obtain ⟨r, e, _⟩ := parent_cut h
  unfold rootF
  rw [e]
  by_cases hm : (58 : UInt8) ∈ u.data.toList
  · obtain ⟨s, t, e2, hs⟩ : ∃ s t, u.data.toList = s ++ 58 :: t ∧ (58 : UInt8) ∉ s := first_of_mem hm
    rw [e2, List.append_assoc, List.cons_append, takeWhile_cut hs, takeWhile_cut hs]
  · rw [takeWhile_cut hm, takeWhile_all hm]

/-- A path ends with the root. -/
theorem path_last {L : List Acct} (hv : Valid L) : ∀ (d : Nat) (n : ByteArray), n.size < d → n ∈ namesA L → (pathF d n).getLast? = some (rootF n)
  | 0, n, h, _ => by omega
  | d + 1, n, hd, hn => by
    unfold pathF
    obtain ⟨a, ha, rfl⟩ := List.mem_map.1 hn
    cases hp : parentF a.name with
    | none =>
      have := parent_none (hv.good a ha) hp
      unfold rootF
      rw [takeWhile_all this]
      rfl
    | some u =>
      obtain ⟨p, hpL, rfl, _⟩ := hv.up a ha u hp
      have hsz := parent_size hp
      simp only
      rw [root_of_parent hp, List.getLast?_cons, path_last hv d p.name (by omega) (List.mem_map.2 ⟨p, hpL, rfl⟩)]
      rfl
end Go.Proofs.YtplocldnklccfaaGreatDoor
namespace Go.Proofs.YtplocldnklccfaaGreatDoor
set_option linter.unusedVariables false
set_option linter.unusedSimpArgs false

theorem splitC_at (r : List UInt8) : splitC 58 (58 :: r) = [] :: splitC 58 r := by
  show (if (58 : UInt8) = 58 then [] :: splitC 58 r else _) = _
  rw [if_pos rfl]
theorem splitC_on {c : UInt8} (h : c ≠ 58) {r q : List UInt8} {qs : List (List UInt8)} (hs : splitC 58 r = q :: qs) : splitC 58 (c :: r) = (c :: q) :: qs := by
  show (if c = 58 then [] :: splitC 58 r else match splitC 58 r with | [] => [[c]] | p :: ps => (c :: p) :: ps) = _
  rw [if_neg h, hs]
theorem split_two (u r : List UInt8) : splitC 58 (u ++ 58 :: r) = splitC 58 u ++ splitC 58 r := by
  induction u with
  | nil => exact splitC_at r
  | cons x u ih =>
    rw [List.cons_append]
    by_cases h : x = 58
    · subst h
      rw [splitC_at, splitC_at, ih]; rfl
    · cases hs : splitC 58 u with
      | nil => exact absurd hs (splitC_ne 58 u)
      | cons p ps =>
        rw [hs] at ih
        rw [splitC_on h hs, splitC_on h ih]
        rfl
/-- What stands ahead of a colon of a good name is good. -/
theorem good_head {u r : List UInt8} (h : goodB (u ++ 58 :: r) = true) : goodB u = true := by
  unfold goodB at *
  simp only [Bool.and_eq_true, decide_eq_true_eq, Bool.not_eq_true', List.any_eq_false] at *
  obtain ⟨h1, h2, h3⟩ := h
  rw [split_two] at h2 h3
  refine ⟨by simp at h1; omega, by simp at h2; omega, fun p hp => h3 p (List.mem_append_left _ hp)⟩
theorem good_up {n u : ByteArray} (h : parentF n = some u) : goodB u.data.toList = true := by
  obtain ⟨r, e, _⟩ := parent_cut h
  obtain ⟨hg, _⟩ := parent_some h
  rw [e] at hg
  exact good_head hg
theorem prefix_path_good : ∀ (d : Nat) (n b : ByteArray), n.size < d → goodB n.data.toList = true → (b = n ∨ (b.data.toList ++ [58]) <+: n.data.toList) → b ∈ pathF d n
  | 0, n, b, h, _, _ => by omega
  | d + 1, n, b, hd, hn, h => by
    unfold pathF
    rcases h with rfl | ⟨t, ht⟩
    · exact List.mem_cons_self ..
    · apply List.mem_cons_of_mem
      cases hp : parentF n with
      | none => exact absurd (by rw [← ht]; simp) (parent_none hn hp)
      | some u =>
        have hsz := parent_size hp
        refine prefix_path_good d u b (by omega) (good_up hp) ?_
        obtain ⟨r, e, hr⟩ := parent_cut hp
        have he : b.data.toList ++ 58 :: t = u.data.toList ++ 58 :: r := by
          rw [← e, ← ht]; simp
        rcases Nat.lt_trichotomy b.data.toList.length u.data.toList.length with hl | hl | hl
        · right
          have := congrArg (List.take (b.data.toList.length + 1)) he
          rw [List.take_append_of_le_length (l₁ := u.data.toList) (by omega)] at this
          refine ⟨u.data.toList.drop (b.data.toList.length + 1), ?_⟩
          have e3 : List.take (b.data.toList.length + 1) (b.data.toList ++ 58 :: t) = b.data.toList ++ [58] := by
            rw [List.take_append, List.take_of_length_le (by omega)]
            simp
          rw [e3] at this
          rw [this, List.take_append_drop]
        · left
          exact ba_ext (List.append_inj_left he hl)
        · exfalso
          have h1 : (b.data.toList ++ 58 :: t)[b.data.toList.length]? = some 58 := by simp
          rw [he, List.getElem?_append_right (by omega)] at h1
          obtain ⟨k, hk⟩ : ∃ k, b.data.toList.length - u.data.toList.length = k + 1 := ⟨b.data.toList.length - u.data.toList.length - 1, by omega⟩
          rw [hk, List.getElem?_cons_succ] at h1
          exact hr (List.mem_of_getElem? h1)
theorem path_good : ∀ (d : Nat) (n : ByteArray), goodB n.data.toList = true → ∀ b ∈ pathF d n, goodB b.data.toList = true
  | 0, n, _, b, h => by simp [pathF] at h
  | d + 1, n, hn, b, h => by
    unfold pathF at h
    rcases List.mem_cons.1 h with rfl | h
    · exact hn
    · cases hp : parentF n with
      | none => rw [hp] at h; simp at h
      | some u =>
        rw [hp] at h
        exact path_good d u (good_up hp) b h
theorem path_last_good : ∀ (d : Nat) (n : ByteArray), n.size < d → goodB n.data.toList = true → (pathF d n).getLast? = some (rootF n)
  | 0, n, h, _ => by omega
  | d + 1, n, hd, hn => by
    unfold pathF
    cases hp : parentF n with
    | none =>
      have := parent_none hn hp
      unfold rootF
      rw [takeWhile_all this]
      rfl
    | some u =>
      have hsz := parent_size hp
      simp only
      rw [root_of_parent hp, List.getLast?_cons, path_last_good d u (by omega) (good_up hp)]
      rfl

/-! ### The path's answers -/
def path7 (s : ByteArray) : List ByteArray := if goodB s.data.toList then pathF 103 s else []
theorem good_size7 {s : ByteArray} (h : goodB s.data.toList = true) : s.size ≤ 102 := by
  unfold goodB at h
  simp only [Bool.and_eq_true, decide_eq_true_eq] at h
  have := h.1
  simpa using this
theorem path7_under (a b : ByteArray) : (path7 a).any (fun x => decide (x = b)) = underF a b := by
  unfold path7 underF
  by_cases ha : goodB a.data.toList = true
  · rw [if_pos ha, ha, Bool.true_and, Bool.eq_iff_iff]
    have hsz := good_size7 ha
    simp only [decide_eq_true_eq, Bool.and_eq_true, Bool.or_eq_true, List.isPrefixOf_iff_prefix, List.any_eq_true, exists_eq_right]
    constructor
    · intro h
      refine ⟨path_good _ _ ha _ h, ?_⟩
      rcases path_prefix _ _ _ h with h | h
      · exact .inl h.symm
      · exact .inr h
    · rintro ⟨_, h | h⟩
      · exact prefix_path_good 103 _ _ (by omega) ha (.inl h.symm)
      · exact prefix_path_good 103 _ _ (by omega) ha (.inr h)
  · rw [if_neg ha]
    simp [ha]
theorem path7_len (s : ByteArray) : (path7 s).length ≤ 103 := by
  unfold path7
  split
  · have h : ∀ (d : Nat) (n : ByteArray), (pathF d n).length ≤ d := by
      intro d
      induction d with
      | zero => intro n; simp [pathF]
      | succ d ih =>
        intro n
        unfold pathF
        cases parentF n with
        | none => simp
        | some u => have := ih u; simp; omega
    exact h _ _
  · simp
theorem path7_second (s : ByteArray) : (path7 s)[1]? = parentF s := by
  unfold path7
  by_cases h : goodB s.data.toList = true
  · rw [if_pos h]
    unfold pathF
    cases hp : parentF s with
    | none => rfl
    | some u =>
      simp only
      have := parent_size hp
      unfold pathF
      simp
  · rw [if_neg h]
    unfold parentF
    rw [if_neg (fun e => h e.1)]
    rfl
theorem path7_last (s : ByteArray) : (path7 s).getLast? = if goodB s.data.toList then some (rootF s) else none := by
  unfold path7
  by_cases h : goodB s.data.toList = true
  · rw [if_pos h, if_pos h]
    exact path_last_good 103 s (by have := good_size7 h; omega) h
  · rw [if_neg h, if_neg h]
    rfl

/-! ### Beginnings ahead of colons -/
def colT (l : List UInt8) : Nat → List ByteArray
  | 0 => []
  | i + 1 => if l[i]? = some 58 then ⟨(l.take i).toArray⟩ :: colT l i else colT l i
theorem colT_succ (l : List UInt8) (i : Nat) : colT l (i + 1) = if l[i]? = some 58 then ⟨(l.take i).toArray⟩ :: colT l i else colT l i := rfl
theorem colT_take (l m : List UInt8) : ∀ i, i ≤ l.length → colT (l ++ m) i = colT l i
  | 0, _ => rfl
  | i + 1, h => by
    rw [colT_succ, colT_succ, List.getElem?_append_left (by omega), List.take_append_of_le_length (by omega), colT_take l m i (by omega)]
theorem colT_none {l r : List UInt8} (h : (58 : UInt8) ∉ r) : ∀ i, i ≤ r.length → colT (l ++ r) (l.length + i) = colT l l.length
  | 0, _ => colT_take l r _ (Nat.le_refl _)
  | i + 1, hi => by
    show colT (l ++ r) (l.length + i + 1) = _
    rw [colT_succ, if_neg, colT_none h i (by omega)]
    intro e
    rw [List.getElem?_append_right (by omega)] at e
    exact h (List.mem_of_getElem? e)
theorem colT_cut {u r : List UInt8} (h : (58 : UInt8) ∉ r) : colT (u ++ 58 :: r) (u ++ 58 :: r).length = ⟨u.toArray⟩ :: colT u u.length := by
  have e : u ++ 58 :: r = (u ++ [58]) ++ r := by simp
  rw [e]
  have h1 := colT_none (l := u ++ [58]) h r.length (Nat.le_refl _)
  rw [List.length_append, h1]
  show colT (u ++ [58]) (u ++ [58]).length = _
  rw [List.length_append]
  show colT (u ++ [58]) (u.length + 1) = _
  rw [colT_succ, if_pos (by simp), List.take_append_of_le_length (Nat.le_refl _), List.take_length, colT_take u [58] _ (Nat.le_refl _)]
theorem colT_free {l : List UInt8} (h : (58 : UInt8) ∉ l) : colT l l.length = [] := by
  have := colT_none (l := []) h l.length (Nat.le_refl _)
  simpa [colT] using this
theorem path_cols : ∀ (d : Nat) (n : ByteArray), n.size < d → goodB n.data.toList = true → pathF d n = n :: colT n.data.toList n.data.toList.length
  | 0, n, h, _ => by omega
  | d + 1, n, hd, hn => by
    unfold pathF
    cases hp : parentF n with
    | none => rw [colT_free (parent_none hn hp)]
    | some u =>
      obtain ⟨r, e, hr⟩ := parent_cut hp
      have hsz := parent_size hp
      simp only
      rw [e, colT_cut hr, path_cols d u (by omega) (good_up hp)]

/-! ### A scan of a name -/
def scanN : Nat → Nat → List UInt8 → Bool
  | p, z, [] => decide (0 < z) && decide (p ≤ 6)
  | p, z, c :: r => if c = 58 then (if z = 0 then false else scanN (p + 1) 0 r)
    else if (z = 0 ∧ ¬ upP c) ∨ ¬ nameP c then false
    else if 16 < z + 1 then false else scanN p (z + 1) r
theorem name58 : ¬ nameP 58 := by decide
theorem up_name {c : UInt8} (h : upP c) : nameP c := .inl h
/-- The part that is being scanned. -/
def goodPre (pre : List UInt8) : Prop := pre.length ≤ 16 ∧ (∀ c ∈ pre, nameP c) ∧ (∀ c r, pre = c :: r → upP c)
theorem part_pre {pre : List UInt8} (h : goodPre pre) : partB pre = decide (0 < pre.length) := by
  rw [Bool.eq_iff_iff, partB_iff, decide_eq_true_eq]
  constructor
  · rintro ⟨_, ⟨c, r, rfl, _⟩, _⟩; simp
  · intro h0
    cases pre with
    | nil => simp at h0
    | cons c r => exact ⟨h.1, ⟨c, r, rfl, h.2.2 c r rfl⟩, h.2.1⟩
theorem split_pre {pre : List UInt8} (h : ∀ c ∈ pre, nameP c) (l : List UInt8) : ∃ q qs, splitC 58 l = q :: qs ∧ splitC 58 (pre ++ l) = (pre ++ q) :: qs := by
  cases hs : splitC 58 l with
  | nil => exact absurd hs (splitC_ne 58 l)
  | cons q qs =>
    refine ⟨q, qs, rfl, ?_⟩
    induction pre with
    | nil => exact hs
    | cons c pre ih =>
      have hc : c ≠ 58 := fun e => name58 (e ▸ h c (by simp))
      have := ih fun x hx => h x (List.mem_cons_of_mem _ hx)
      rw [List.cons_append]
      unfold splitC
      rw [if_neg hc, this]
      rfl
/-- The pieces of what is left, with the part scanned ahead, are parts, and not too many. -/
def restGood (p : Nat) (pre l : List UInt8) : Bool := decide (p + (splitC 58 l).length ≤ 7) && !(splitC 58 (pre ++ l)).any fun q => !partB q
theorem scan_rest : ∀ (l : List UInt8) (p : Nat) (pre : List UInt8), goodPre pre → scanN p pre.length l = restGood p pre l
  | [], p, pre, h => by
    unfold scanN restGood
    obtain ⟨q, qs, h1, h2⟩ := split_pre h.2.1 []
    have e1 : splitC 58 [] = [[]] := rfl
    rw [e1] at h1
    injection h1 with h3 h4
    rw [h2, ← h3, ← h4, e1]
    simp only [List.append_nil, List.any_cons, List.any_nil, Bool.or_false, Bool.not_not, List.length_singleton]
    rw [part_pre h, Bool.and_comm]
    congr 1
    simp only [decide_eq_decide]
    omega
  | c :: r, p, pre, h => by
    unfold scanN
    by_cases hc : c = 58
    · subst hc
      rw [if_pos rfl]
      have e1 := splitC_at r
      have e2 : splitC 58 (pre ++ 58 :: r) = pre :: splitC 58 r := by
        obtain ⟨q, qs, h1, h2⟩ := split_pre h.2.1 (58 :: r)
        rw [e1] at h1
        injection h1 with h3 h4
        rw [h2, ← h3, ← h4, List.append_nil]
      unfold restGood
      rw [e1, e2, List.any_cons, part_pre h]
      by_cases hz : pre.length = 0
      · rw [if_pos hz]
        simp [hz]
      · rw [if_neg hz]
        have h3 := scan_rest r (p + 1) [] ⟨by simp, by simp, by simp⟩
        rw [show ([] : List UInt8).length = 0 from rfl] at h3
        rw [h3]
        unfold restGood
        have h0 : decide (0 < pre.length) = true := decide_eq_true (by omega)
        rw [h0, List.nil_append, List.length_cons]
        simp only [Bool.not_true, Bool.false_or]
        congr 1
        simp only [decide_eq_decide]
        omega
    · rw [if_neg hc]
      have e1 : (splitC 58 (c :: r)).length = (splitC 58 r).length := by
        cases hs : splitC 58 r with
        | nil => exact absurd hs (splitC_ne 58 r)
        | cons q qs => rw [splitC_on hc hs]; rfl
      have e3 : pre ++ c :: r = (pre ++ [c]) ++ r := by simp
      have bad : ∀ (h5 : partB (pre ++ c :: (splitC 58 r).headD []) = false), restGood p pre (c :: r) = false := fun h5 => by
        unfold restGood
        have : splitC 58 (pre ++ c :: r) = (pre ++ c :: (splitC 58 r).headD []) :: (splitC 58 r).tail := by
          obtain ⟨q, qs, h1, h2⟩ := split_pre h.2.1 (c :: r)
          rw [h2]
          cases hs : splitC 58 r with
          | nil => exact absurd hs (splitC_ne 58 r)
          | cons q2 qs2 =>
            rw [splitC_on hc hs] at h1
            injection h1 with h6 h7
            rw [← h6, ← h7]
            rfl
        rw [this, List.any_cons, h5]
        simp
      by_cases hb : (pre.length = 0 ∧ ¬ upP c) ∨ ¬ nameP c
      · rw [if_pos hb]
        refine (bad ?_).symm
        rw [Bool.eq_false_iff]
        intro hp
        obtain ⟨_, ⟨c', r', e, hu⟩, hn⟩ := (partB_iff _).1 hp
        rcases hb with ⟨h0, hu'⟩ | hn'
        · have : pre = [] := List.eq_nil_of_length_eq_zero h0
          subst this
          rw [List.nil_append] at e
          injection e with e4 _
          exact hu' (e4 ▸ hu)
        · exact hn' (hn c (by simp))
      · rw [if_neg hb]
        have hn : nameP c := Decidable.byContradiction fun hx => hb (.inr hx)
        by_cases hz : 16 < pre.length + 1
        · rw [if_pos hz]
          refine (bad ?_).symm
          rw [Bool.eq_false_iff]
          intro hp
          have := ((partB_iff _).1 hp).1
          rw [List.length_append, List.length_cons] at this
          omega
        · rw [if_neg hz]
          have hpre : goodPre (pre ++ [c]) := by
            refine ⟨by rw [List.length_append]; simp; omega, fun x hx => ?_, fun x rr e => ?_⟩
            · rcases List.mem_append.1 hx with hx | hx
              · exact h.2.1 x hx
              · rw [List.mem_singleton] at hx; exact hx ▸ hn
            · cases pre with
              | nil =>
                rw [List.nil_append] at e
                injection e with e4 _
                subst e4
                exact Decidable.byContradiction fun hx => hb (.inl ⟨rfl, hx⟩)
              | cons y ys =>
                rw [List.cons_append] at e
                injection e with e4 _
                exact e4 ▸ h.2.2 y ys rfl
          have h3 := scan_rest r p (pre ++ [c]) hpre
          rw [List.length_append, List.length_singleton] at h3
          rw [h3]
          unfold restGood
          rw [e3, e1]
theorem split_sum : ∀ (l : List UInt8), l.length + 1 = ((splitC 58 l).map (·.length)).sum + (splitC 58 l).length
  | [] => by simp [splitC]
  | c :: r => by
    have ih := split_sum r
    by_cases hc : c = 58
    · have e : splitC 58 (c :: r) = [] :: splitC 58 r := hc ▸ splitC_at r
      rw [e]
      simp
      omega
    · cases hs : splitC 58 r with
      | nil => exact absurd hs (splitC_ne 58 r)
      | cons q qs =>
        have e := splitC_on hc hs
        rw [hs] at ih
        rw [e]
        simp at *
        omega
theorem sum_le16 : ∀ (ps : List (List UInt8)), (∀ q ∈ ps, q.length ≤ 16) → (ps.map (·.length)).sum ≤ 16 * ps.length
  | [], _ => by simp
  | p :: ps, h => by
    have h1 := h p (by simp)
    have h2 := sum_le16 ps fun q hq => h q (List.mem_cons_of_mem _ hq)
    simp
    omega
theorem scan_good (l : List UInt8) : scanN 1 0 l = goodB l := by
  have h := scan_rest l 1 [] ⟨by simp, by simp, by simp⟩
  rw [show ([] : List UInt8).length = 0 from rfl] at h
  rw [h]
  unfold restGood goodB
  rw [List.nil_append]
  by_cases hp : (splitC 58 l).any (fun q => !partB q) = true
  · rw [hp]; simp
  · by_cases h6 : (splitC 58 l).length ≤ 6
    · have hs := split_sum l
      have hl := sum_le16 (splitC 58 l) fun q hq => by
        have : partB q = true := by
          simp only [List.any_eq_true, not_exists, not_and, Bool.not_eq_true', Bool.not_eq_false] at hp
          exact hp q hq
        exact ((partB_iff q).1 this).1
      rw [decide_eq_true (by omega : 1 + (splitC 58 l).length ≤ 7), decide_eq_true (by omega : l.length ≤ 102), decide_eq_true h6, Bool.true_and, Bool.true_and]
    · rw [decide_eq_false (by omega : ¬ 1 + (splitC 58 l).length ≤ 7), decide_eq_false h6]
      simp
end Go.Proofs.YtplocldnklccfaaGreatDoor
namespace Go.Proofs.YtplocldnklccfaaGreatDoor
open Go.RowKit Go.Shelf
set_option linter.unusedVariables false
set_option linter.unusedSimpArgs false

theorem cut_colon (l : List UInt8) : (Lib.cut l [58]).1 = l.takeWhile (fun c => decide (c ≠ 58)) := by
  have key : ∀ l : List UInt8, (Lib.index l [58] = -1 ∧ l.takeWhile (fun c => decide (c ≠ 58)) = l) ∨ ∃ i : Nat, Lib.index l [58] = i ∧ l.take i = l.takeWhile (fun c => decide (c ≠ 58)) := by
    intro l
    induction l with
    | nil => exact .inl ⟨rfl, rfl⟩
    | cons b r ih =>
      by_cases hb : b = 58
      · subst hb
        exact .inr ⟨0, by simp [Lib.index], by simp⟩
      · have hp : ([58] : List UInt8).isPrefixOf (b :: r) = false := by
          simp [List.isPrefixOf, Ne.symm hb]
        have ht : (b :: r).takeWhile (fun c => decide (c ≠ 58)) = b :: r.takeWhile (fun c => decide (c ≠ 58)) := by simp [List.takeWhile_cons, hb]
        have hi : Lib.index (b :: r) [58] = if Lib.index r [58] == -1 then -1 else Lib.index r [58] + 1 := by
          rw [Lib.index, hp]
          simp
        rw [ht, hi]
        rcases ih with ⟨h1, h2⟩ | ⟨i, h1, h2⟩
        · left
          rw [h1, h2]
          exact ⟨by simp, rfl⟩
        · right
          refine ⟨i + 1, ?_, by simp [h2]⟩
          rw [h1, if_neg (by simp)]
          rfl
  unfold Lib.cut
  rcases key l with ⟨h1, h2⟩ | ⟨i, h1, h2⟩
  · rw [h1, if_neg (by omega), h2]
  · rw [h1, if_pos (by omega), ← h2]
    simp

def rootG (s : ByteArray) : ByteArray := if goodB s.data.toList then rootF s else ⟨#[]⟩
def pathG (s : ByteArray) : List ByteArray := if goodB s.data.toList then pathF 103 s else []

theorem Root_any (s : ByteArray) (w : World) (hs : s.size ≤ 140737488355328) (hm : ∃ m, w.cell? ⟨0, 0, none⟩ = some (.int .i64 m)) (h0 : 0 < w.heap.size) :
    Calls Tryz.prog 12 #[.string s] w fun e w' => e = .returned (.string (rootG s)) ∧ Below w.heap.size w w' := by
  have hg := Good_any s w (by unfold maxLen; omega)
  unfold rootG
  cases hb : goodB s.data.toList with
  | false =>
    rw [hb] at hg
    clear hb
    go_enter Tryz.func12, Tryz.ntmps12
    go_wp2_with (go_at_call 6; refine hg.mono ?_; rintro e w' ⟨rfl, hbel⟩)
    go_ret
    exact ⟨rfl, hbel⟩
  | true =>
    have hsz := good_size hb
    rw [hb] at hg
    clear hb
    have hc : ∀ W, Below w.heap.size w W → Calls Tryz.prog 28 #[.string s, .string ⟨#[58]⟩] W fun e w' => ∃ b r, e = .returned (.tuple #[.string (rootF s), .string b, .bool r]) ∧ Below W.heap.size W w' := fun W hb => by
      obtain ⟨m, hm⟩ := hm
      refine (Tryz.strings_Cut s ⟨#[58]⟩ m W (by omega) ((hb.cell (p := ⟨0, 0, none⟩) h0).trans hm)).mono ?_
      rintro e w' ⟨rfl, n, rfl⟩
      refine ⟨⟨(Lib.cut s.data.toList [58]).2.1.toArray⟩, (Lib.cut s.data.toList [58]).2.2, ?_, ⟨rfl, rfl, rfl, Nat.le_refl _, fun _ _ => rfl⟩⟩
      show Ending.returned (.tuple #[.string ⟨(Lib.cut s.data.toList [58]).1.toArray⟩, _, _]) = _
      rw [cut_colon]
      rfl
    clear hm
    simp only [if_true]
    go_enter Tryz.func12, Tryz.ntmps12
    go_wp2_with (first
      | (go_at_call 6; refine hg.mono ?_; rintro e w1 ⟨rfl, hb1⟩; have hc1 := hc w1 hb1)
      | (go_at_call 28; refine hc1.mono ?_; rintro e w2 ⟨b, r, rfl, hb2⟩))
    go_ret
    exact ⟨rfl, hb1.trans (hb2.mono hb1.size)⟩

theorem hasPrefix_join (a b : ByteArray) : Lib.hasPrefix a.data.toList (b ++ ⟨#[58]⟩ : ByteArray).data.toList = (b.data.toList ++ [58]).isPrefixOf a.data.toList := by
  unfold Lib.hasPrefix
  congr 1

theorem Under_any (a b : ByteArray) (w : World) (ha : a.size ≤ 140737488355328) (hb : b.size ≤ 140737488355328) :
    Calls Tryz.prog 8 #[.string a, .string b] w fun e w' => e = .returned (.bool (underF a b)) ∧ Below w.heap.size w w' := by
  have hg1 := Good_any a w (by unfold maxLen; omega)
  have hg2 := fun W => Good_any b W (by unfold maxLen; omega)
  have hp := fun W => Tryz.strings_HasPrefix a (b ++ ⟨#[58]⟩) W
  simp only [hasPrefix_join] at hp
  unfold underF
  cases h1 : goodB a.data.toList with
  | false =>
    rw [h1] at hg1
    clear h1 hp hg2
    go_enter Tryz.func8, Tryz.ntmps8
    go_wp2_with (go_at_call 6; refine hg1.mono ?_; rintro e w1 ⟨rfl, hb1⟩)
    go_ret
    exact ⟨rfl, hb1⟩
  | true =>
    rw [h1] at hg1
    clear h1
    cases h2 : goodB b.data.toList with
    | false =>
      simp only [h2] at hg2
      clear h2 hp
      go_enter Tryz.func8, Tryz.ntmps8
      go_wp2_with (first
        | (go_at_call 6; refine hg1.mono ?_; clear hg1; rintro e w1 ⟨rfl, hb1⟩)
        | (go_at_call 6; refine (hg2 _).mono ?_; rintro e w2 ⟨rfl, hb2⟩))
      go_ret
      exact ⟨rfl, hb1.trans (hb2.mono hb1.size)⟩
    | true =>
      simp only [h2] at hg2
      clear h2
      by_cases hab : a = b
      · subst hab
        rw [decide_eq_true rfl]
        clear hp
        go_enter Tryz.func8, Tryz.ntmps8
        go_wp2_with (first
          | (go_at_call 6; refine hg1.mono ?_; clear hg1; rintro e w1 ⟨rfl, hb1⟩)
          | (go_at_call 6; refine (hg2 _).mono ?_; rintro e w2 ⟨rfl, hb2⟩))
        go_ret
        exact ⟨rfl, hb1.trans (hb2.mono hb1.size)⟩
      · rw [decide_eq_false hab]
        obtain ⟨R, hR⟩ : ∃ R, R = (b.data.toList ++ [58]).isPrefixOf a.data.toList := ⟨_, rfl⟩
        simp only [← hR] at hp ⊢
        clear hR
        have ec : (a.toList == b.toList) = false := by
          rw [beq_eq_false_iff_ne]
          intro e
          exact hab (ByteArray.ext (by simpa [ByteArray.toList_eq] using e))
        clear hab
        go_enter Tryz.func8, Tryz.ntmps8
        go_wp2_with (first
          | (go_at_call 6; refine hg1.mono ?_; clear hg1; rintro e w1 ⟨rfl, hb1⟩)
          | (go_at_call 6; refine (hg2 _).mono ?_; rintro e w2 ⟨rfl, hb2⟩)
          | (go_at_call 26; refine (hp _).mono ?_; rintro e w3 ⟨rfl, hw3⟩; subst hw3))
        go_simp
        go_wp2
        go_ret
        exact ⟨by simp, hb1.trans (hb2.mono hb1.size)⟩

theorem path_len : ∀ (d : Nat) (n : ByteArray), (pathF d n).length ≤ d
  | 0, n => by simp [pathF]
  | d + 1, n => by
    unfold pathF
    cases parentF n with
    | none => simp
    | some u => have := path_len d u; simp; omega

def restOf : Option ByteArray → List ByteArray
  | none => []
  | some u => pathF 103 u

theorem restOf_some (u : ByteArray) : restOf (some u) = pathF 103 u := by simp only [restOf]

/-- Between two rounds of Path. -/
structure PathInv (w : World) (s : ByteArray) (v up is : Value) (wr : World) (pre : List ByteArray) (o : Option ByteArray) : Prop where
  row : wr.ownsRow w.heap.size 9 1 v pre.length (pre.map Value.string)
  upv : up = .string (o.getD ⟨#[]⟩)
  isv : is = .bool o.isSome
  eq : pre ++ restOf o = pathF 103 s
  lt : ∀ u, o = some u → u.size ≤ 101
  bel : Below w.heap.size w wr

theorem own_one {w1 w2 : World} {base : Nat} (s : ByteArray) (t : TypeId) (hb : base ≤ w1.heap.size) (h : Below (w1.alloc (.cells #[.string s] t)).heap.size (w1.alloc (.cells #[.string s] t)) w2) :
    w2.ownsRow base t 1 (.slice (some ⟨w1.heap.size, 0, none⟩) 1 1) [s].length ([s].map Value.string) :=
  ⟨rfl, .inr ⟨w1.heap.size, 1, #[.string s], rfl, hb, (h.block _ (by simp)).trans (World.alloc_heap_new w1 _), Nat.le_refl _, by unfold maxLen; omega, rfl, rfl⟩⟩
def upSize (up is : Value) : Nat := match up, is with
  | .string u, .bool true => u.size + 1
  | _, _ => 0

theorem path_unfold {u : ByteArray} (h : u.size ≤ 102) : pathF 103 u = u :: restOf (parentF u) := by
  conv => lhs; unfold pathF
  cases hp : parentF u with
  | none => rfl
  | some x =>
    have := parent_size hp
    simp only
    rw [path_more 102 103 x (by omega) (by omega)]
    rfl

set_option maxRecDepth 100000 in
set_option maxHeartbeats 1000000 in
theorem Path_any (s : ByteArray) (w : World) (hs : s.size ≤ 140737488355328) :
    Calls Tryz.prog 14 #[.string s] w fun e w' => ∃ v, e = .returned v ∧ w'.ownsRow w.heap.size 9 1 v (pathG s).length ((pathG s).map Value.string) ∧ Below w.heap.size w w' := by
  have hg := Good_any s w (by unfold maxLen; omega)
  unfold pathG
  cases hb : goodB s.data.toList with
  | false =>
    rw [hb] at hg
    clear hb
    go_enter Tryz.func14, Tryz.ntmps14
    go_wp2_with (go_at_call 6; refine hg.mono ?_; rintro e w' ⟨rfl, hbel⟩)
    go_ret
    exact ⟨_, rfl, World.ownsRow_nil _ _ _ _, hbel⟩
  | true =>
    obtain ⟨i0, hi, hz0, hz1, hz2⟩ := info_parts info_str
    have hsz := good_size hb
    rw [hb] at hg
    clear hb
    simp only [if_true]
    have hpar := fun (u : ByteArray) (h : u.size ≤ 102) (W : World) => Parent_any u W (by omega)
    have hp0 := fun W => hpar s hsz W
    have HPAR := Lib.hid hpar
    clear hpar
    have hpf := path_unfold hsz
    have HPF := Lib.hid hpf
    clear hpf
    have hlt0 : ∀ u, parentF s = some u → u.size ≤ 101 := fun u hu => by have := parent_size hu; omega
    have HLT := Lib.hid hlt0
    clear hlt0
    go_enter Tryz.func14, Tryz.ntmps14
    go_wp2_with (first
      | (go_at_call 6; refine hg.mono ?_; rintro e w1 ⟨rfl, hb1⟩; have HB1 := Lib.hid hb1; clear hb1)
      | (go_at_call 10; refine (hp0 _).mono ?_; rintro e w2 ⟨rfl, hb2⟩; have HB2 := Lib.hid hb2; clear hb2))
    go_loopw [3, 4, 5] (fun v up is wr => ∃ pre o, PathInv w s v up is wr pre o) (fun _ up is _ => upSize up is)
    case atStart => exact ⟨[s], parentF s, ⟨own_one s _ HB1.out.size HB2.out, rfl, rfl, HPF.out.symm, HLT.out, (HB1.out.alloc HB1.out.size _).trans (HB2.out.mono (by have := HB1.out.size; simp; omega))⟩⟩
    case round =>
      obtain ⟨pre, o, ⟨hrow, rfl, rfl, heq, hlt, hbel⟩⟩ := hrel
      cases o with
      | none =>
        go_wp2
        go_ret
        have heq' : pre = pathF 103 s := by rw [← heq]; exact (List.append_nil pre).symm
        rw [← heq']
        exact ⟨_, rfl, hrow, hbel⟩
      | some u =>
        have hu := hlt u rfl
        have hpu := fun W => HPAR.out u (by omega) W
        have hlen : pre.length ≤ 102 := by
          have h1 := path_len 103 s
          rw [← heq, List.length_append] at h1
          have h2 : 1 ≤ (restOf (some u)).length := by show 1 ≤ (pathF 103 u).length; rw [path_unfold (by omega)]; simp
          omega
        have HEQ := Lib.hid heq
        have HO := Lib.hid hrow
        clear heq hrow hlt
        simp only [Option.getD_some, Option.isSome_some]
        go_wp2_with (first
          | (at_builtin; refine wpList_append_own _ rfl _ _ 50 rfl w.heap.size 9 i0 (.string ByteArray.empty) 1 16 Tryz.underlying50 hi hz0 hz1 hz2 rfl (by decide) _ _ _ rfl (HO.out.alloc _) ⟨wr.heap.size, 0, none⟩ 1 1 [.string u] rfl rfl (cell_one_new _ _ _) (by simp [Value.oneCell']) (by unfold maxLen; omega) (by omega) (by have := hbel.size; simp; omega) ?_; intro v' w1 hown' hgrow _; have HO1 := Lib.hid hown'; have hb1 : Below w.heap.size w w1 := (hbel.alloc hbel.size _).grown hgrow (by have := hbel.size; simp; omega) fun k' hk' => (HO.out.lt k' hk').1; clear hown' hgrow)
          | (go_at_call 10; refine (hpu _).mono ?_; rintro e w2 ⟨rfl, hb2⟩; have HB2' := Lib.hid hb2; clear hb2))
        refine ⟨⟨pre ++ [u], parentF u, ⟨?_, rfl, rfl, ?_, fun x hx => ?_, hb1.trans (HB2'.out.mono hb1.size)⟩⟩, ?_⟩
        · have h1 := HO1.out
          have h2 : w2.ownsRow w.heap.size 9 1 v' (pre.length + 1) (pre.map Value.string ++ [.string u]) := ownsRow_keep h1 fun k e => HB2'.out.block k (h1.lt k e).2
          simpa using h2
        · rw [← HEQ.out, List.append_assoc, restOf_some, path_unfold (Nat.le_succ_of_le hu), List.singleton_append]
        · have := parent_size hx; omega
        · cases hp : parentF u with
          | none => show 0 < u.size + 1; omega
          | some x => have := parent_size hp; show x.size + 1 < u.size + 1; omega
end Go.Proofs.YtplocldnklccfaaGreatDoor
