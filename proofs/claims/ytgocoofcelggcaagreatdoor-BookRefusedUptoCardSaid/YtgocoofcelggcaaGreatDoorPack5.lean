/- Contracts of the event package: split, fit, good, join, same. Printed by gen_event.py; Contracts of the event package: join, same. Printed by gen_event2.py. -/
import Derived.Test.YtgocoofcelggcaaGreatDoorPack1
import Derived.Test.YtgocoofcelggcaaGreatDoorShelf
import Derived.Test.YtgocoofcelggcaaGreatDoorPack4
import Derived.BigRegion
import Derived.RegionTactic
import Derived.ChangeAlike
import Derived.KernelRfl
namespace Go.Proofs.YtgocoofcelggcaaGreatDoor
open Go.RowKit
set_option linter.unusedVariables false
set_option linter.unusedSimpArgs false

/-- An event as it is handed over; lv: its lines' slice. -/
def evV (e : EventV) (lv : Value) : Value := .agg #[.int .i64 e.kind, .int .i64 e.day, .string e.key, .string e.account, .string e.other, .string e.ref, .string e.ref2, .int .i64 e.typ, .int .i64 e.due, .int .i64 e.amount, .string e.memo, lv]

/-- An event by its kind. -/
def contV (e : EventV) (lv : Value) : Value :=
  if e.kind = 1 then .iface 139 (.agg #[.string e.account, .int .i64 e.typ])
  else if e.kind = 2 then .iface 141 (.agg #[.string e.account])
  else if e.kind = 3 then .iface 143 (.agg #[.string e.key, .string e.memo, lv])
  else if e.kind = 4 then .iface 145 (.agg #[.string e.key, .string e.ref, .string e.memo])
  else if e.kind = 5 then .iface 147 (.agg #[.string e.key, .string e.account, .string e.other, .int .i64 e.due, .int .i64 e.amount, .string e.memo])
  else if e.kind = 6 then .iface 149 (.agg #[.string e.key, .string e.account, .string e.other, .int .i64 e.amount, .string e.memo])
  else if e.kind = 7 then .iface 151 (.agg #[.string e.key, .string e.ref, .string e.ref2, .int .i64 e.amount])
  else if e.kind = 8 then .iface 153 (.agg #[])
  else .nilIface

theorem split1 (day : Int) (key account other ref ref2 : ByteArray) (typ due amount : Int) (memo : ByteArray) (A : Option Addr) (n c : Nat) (w : World) :
    Calls Tryz.prog 51 #[.agg #[.int .i64 1, .int .i64 day, .string key, .string account, .string other, .string ref, .string ref2, .int .i64 typ, .int .i64 due, .int .i64 amount, .string memo, .slice A n c]] w fun e w' => e = .returned (.iface 139 (.agg #[.string account, .int .i64 typ])) ∧ Below w.heap.size w w' := by
  go_enter Tryz.func51, Tryz.ntmps51
  go_wp2
  go_ret
  exact ⟨rfl, (Below.refl _ _).alloc (Nat.le_refl _) _⟩
theorem split2 (day : Int) (key account other ref ref2 : ByteArray) (typ due amount : Int) (memo : ByteArray) (A : Option Addr) (n c : Nat) (w : World) :
    Calls Tryz.prog 51 #[.agg #[.int .i64 2, .int .i64 day, .string key, .string account, .string other, .string ref, .string ref2, .int .i64 typ, .int .i64 due, .int .i64 amount, .string memo, .slice A n c]] w fun e w' => e = .returned (.iface 141 (.agg #[.string account])) ∧ Below w.heap.size w w' := by
  go_enter Tryz.func51, Tryz.ntmps51
  go_wp2
  go_ret
  exact ⟨rfl, (Below.refl _ _).alloc (Nat.le_refl _) _⟩
theorem split3 (day : Int) (key account other ref ref2 : ByteArray) (typ due amount : Int) (memo : ByteArray) (A : Option Addr) (n c : Nat) (w : World) :
    Calls Tryz.prog 51 #[.agg #[.int .i64 3, .int .i64 day, .string key, .string account, .string other, .string ref, .string ref2, .int .i64 typ, .int .i64 due, .int .i64 amount, .string memo, .slice A n c]] w fun e w' => e = .returned (.iface 143 (.agg #[.string key, .string memo, .slice A n c])) ∧ Below w.heap.size w w' := by
  go_enter Tryz.func51, Tryz.ntmps51
  go_wp2
  go_ret
  exact ⟨rfl, (Below.refl _ _).alloc (Nat.le_refl _) _⟩
theorem split4 (day : Int) (key account other ref ref2 : ByteArray) (typ due amount : Int) (memo : ByteArray) (A : Option Addr) (n c : Nat) (w : World) :
    Calls Tryz.prog 51 #[.agg #[.int .i64 4, .int .i64 day, .string key, .string account, .string other, .string ref, .string ref2, .int .i64 typ, .int .i64 due, .int .i64 amount, .string memo, .slice A n c]] w fun e w' => e = .returned (.iface 145 (.agg #[.string key, .string ref, .string memo])) ∧ Below w.heap.size w w' := by
  go_enter Tryz.func51, Tryz.ntmps51
  go_wp2
  go_ret
  exact ⟨rfl, (Below.refl _ _).alloc (Nat.le_refl _) _⟩
theorem split5 (day : Int) (key account other ref ref2 : ByteArray) (typ due amount : Int) (memo : ByteArray) (A : Option Addr) (n c : Nat) (w : World) :
    Calls Tryz.prog 51 #[.agg #[.int .i64 5, .int .i64 day, .string key, .string account, .string other, .string ref, .string ref2, .int .i64 typ, .int .i64 due, .int .i64 amount, .string memo, .slice A n c]] w fun e w' => e = .returned (.iface 147 (.agg #[.string key, .string account, .string other, .int .i64 due, .int .i64 amount, .string memo])) ∧ Below w.heap.size w w' := by
  go_enter Tryz.func51, Tryz.ntmps51
  go_wp2
  go_ret
  exact ⟨rfl, (Below.refl _ _).alloc (Nat.le_refl _) _⟩
theorem split6 (day : Int) (key account other ref ref2 : ByteArray) (typ due amount : Int) (memo : ByteArray) (A : Option Addr) (n c : Nat) (w : World) :
    Calls Tryz.prog 51 #[.agg #[.int .i64 6, .int .i64 day, .string key, .string account, .string other, .string ref, .string ref2, .int .i64 typ, .int .i64 due, .int .i64 amount, .string memo, .slice A n c]] w fun e w' => e = .returned (.iface 149 (.agg #[.string key, .string account, .string other, .int .i64 amount, .string memo])) ∧ Below w.heap.size w w' := by
  go_enter Tryz.func51, Tryz.ntmps51
  go_wp2
  go_ret
  exact ⟨rfl, (Below.refl _ _).alloc (Nat.le_refl _) _⟩
theorem split7 (day : Int) (key account other ref ref2 : ByteArray) (typ due amount : Int) (memo : ByteArray) (A : Option Addr) (n c : Nat) (w : World) :
    Calls Tryz.prog 51 #[.agg #[.int .i64 7, .int .i64 day, .string key, .string account, .string other, .string ref, .string ref2, .int .i64 typ, .int .i64 due, .int .i64 amount, .string memo, .slice A n c]] w fun e w' => e = .returned (.iface 151 (.agg #[.string key, .string ref, .string ref2, .int .i64 amount])) ∧ Below w.heap.size w w' := by
  go_enter Tryz.func51, Tryz.ntmps51
  go_wp2
  go_ret
  exact ⟨rfl, (Below.refl _ _).alloc (Nat.le_refl _) _⟩
theorem split8 (day : Int) (key account other ref ref2 : ByteArray) (typ due amount : Int) (memo : ByteArray) (A : Option Addr) (n c : Nat) (w : World) :
    Calls Tryz.prog 51 #[.agg #[.int .i64 8, .int .i64 day, .string key, .string account, .string other, .string ref, .string ref2, .int .i64 typ, .int .i64 due, .int .i64 amount, .string memo, .slice A n c]] w fun e w' => e = .returned (.iface 153 (.agg #[])) ∧ Below w.heap.size w w' := by
  go_enter Tryz.func51, Tryz.ntmps51
  go_wp2
  go_ret
  exact ⟨rfl, (Below.refl _ _).alloc (Nat.le_refl _) _⟩
theorem split0 (k : Int) (day : Int) (key account other ref ref2 : ByteArray) (typ due amount : Int) (memo : ByteArray) (A : Option Addr) (n c : Nat) (w : World) (h1 : (k == 1) = false) (h2 : (k == 2) = false) (h3 : (k == 3) = false) (h4 : (k == 4) = false) (h5 : (k == 5) = false) (h6 : (k == 6) = false) (h7 : (k == 7) = false) (h8 : (k == 8) = false) :
    Calls Tryz.prog 51 #[.agg #[.int .i64 k, .int .i64 day, .string key, .string account, .string other, .string ref, .string ref2, .int .i64 typ, .int .i64 due, .int .i64 amount, .string memo, .slice A n c]] w fun e w' => e = .returned .nilIface ∧ Below w.heap.size w w' := by
  go_enter Tryz.func51, Tryz.ntmps51
  go_wp2
  go_ret
  exact ⟨rfl, (Below.refl _ _).alloc (Nat.le_refl _) _⟩
theorem split_any (e : EventV) (A : Option Addr) (n c : Nat) (w : World) :
    Calls Tryz.prog 51 #[evV e (.slice A n c)] w fun en w' => en = .returned (contV e (.slice A n c)) ∧ Below w.heap.size w w' := by
  unfold evV contV
  by_cases h1 : e.kind = 1
  · rw [h1]
    exact split1 _ _ _ _ _ _ _ _ _ _ _ _ _ _
  rw [if_neg h1]
  by_cases h2 : e.kind = 2
  · rw [h2]
    exact split2 _ _ _ _ _ _ _ _ _ _ _ _ _ _
  rw [if_neg h2]
  by_cases h3 : e.kind = 3
  · rw [h3]
    exact split3 _ _ _ _ _ _ _ _ _ _ _ _ _ _
  rw [if_neg h3]
  by_cases h4 : e.kind = 4
  · rw [h4]
    exact split4 _ _ _ _ _ _ _ _ _ _ _ _ _ _
  rw [if_neg h4]
  by_cases h5 : e.kind = 5
  · rw [h5]
    exact split5 _ _ _ _ _ _ _ _ _ _ _ _ _ _
  rw [if_neg h5]
  by_cases h6 : e.kind = 6
  · rw [h6]
    exact split6 _ _ _ _ _ _ _ _ _ _ _ _ _ _
  rw [if_neg h6]
  by_cases h7 : e.kind = 7
  · rw [h7]
    exact split7 _ _ _ _ _ _ _ _ _ _ _ _ _ _
  rw [if_neg h7]
  by_cases h8 : e.kind = 8
  · rw [h8]
    exact split8 _ _ _ _ _ _ _ _ _ _ _ _ _ _
  rw [if_neg h8]
  exact split0 _ _ _ _ _ _ _ _ _ _ _ _ _ _ _ (by simpa using h1) (by simpa using h2) (by simpa using h3) (by simpa using h4) (by simpa using h5) (by simpa using h6) (by simpa using h7) (by simpa using h8)

theorem bel1 (w : World) (o : Obj) : Below w.heap.size w (w.alloc o) := (Below.refl _ _).alloc (Nat.le_refl _) _
theorem bel2 (w : World) (o p : Obj) : Below w.heap.size w ((w.alloc o).alloc p) := (bel1 w o).alloc (by simp) _
theorem bel3 (w : World) (o p q : Obj) : Below w.heap.size w (((w.alloc o).alloc p).alloc q) := (bel2 w o p).alloc (by simp; omega) _
/-! ### Which kind an event's content is of -/
@[local go_sem] theorem as1_1 (v : Value) (w : World) : (Instr.typeAssert (.iface 139 v) 119 139 true).run Tryz.prog w = .ok (.tuple #[v, .bool true]) w := by kernel_rfl
@[local go_sem] theorem as0_1 (w : World) : (Instr.typeAssert .nilIface 119 139 true).run Tryz.prog w = .ok (.tuple #[.agg #[.string ByteArray.empty, .int .i64 0], .bool false]) w := by kernel_rfl
@[local go_sem] theorem as2_2 (v : Value) (w : World) : (Instr.typeAssert (.iface 141 v) 119 141 true).run Tryz.prog w = .ok (.tuple #[v, .bool true]) w := by kernel_rfl
@[local go_sem] theorem as2_1 (v : Value) (w : World) : (Instr.typeAssert (.iface 141 v) 119 139 true).run Tryz.prog w = .ok (.tuple #[.agg #[.string ByteArray.empty, .int .i64 0], .bool false]) w := by kernel_rfl
@[local go_sem] theorem as0_2 (w : World) : (Instr.typeAssert .nilIface 119 141 true).run Tryz.prog w = .ok (.tuple #[.agg #[.string ByteArray.empty], .bool false]) w := by kernel_rfl
@[local go_sem] theorem as3_3 (v : Value) (w : World) : (Instr.typeAssert (.iface 143 v) 119 143 true).run Tryz.prog w = .ok (.tuple #[v, .bool true]) w := by kernel_rfl
@[local go_sem] theorem as3_1 (v : Value) (w : World) : (Instr.typeAssert (.iface 143 v) 119 139 true).run Tryz.prog w = .ok (.tuple #[.agg #[.string ByteArray.empty, .int .i64 0], .bool false]) w := by kernel_rfl
@[local go_sem] theorem as3_2 (v : Value) (w : World) : (Instr.typeAssert (.iface 143 v) 119 141 true).run Tryz.prog w = .ok (.tuple #[.agg #[.string ByteArray.empty], .bool false]) w := by kernel_rfl
@[local go_sem] theorem as0_3 (w : World) : (Instr.typeAssert .nilIface 119 143 true).run Tryz.prog w = .ok (.tuple #[.agg #[.string ByteArray.empty, .string ByteArray.empty, .slice none 0 0], .bool false]) w := by kernel_rfl
@[local go_sem] theorem as4_4 (v : Value) (w : World) : (Instr.typeAssert (.iface 145 v) 119 145 true).run Tryz.prog w = .ok (.tuple #[v, .bool true]) w := by kernel_rfl
@[local go_sem] theorem as4_1 (v : Value) (w : World) : (Instr.typeAssert (.iface 145 v) 119 139 true).run Tryz.prog w = .ok (.tuple #[.agg #[.string ByteArray.empty, .int .i64 0], .bool false]) w := by kernel_rfl
@[local go_sem] theorem as4_2 (v : Value) (w : World) : (Instr.typeAssert (.iface 145 v) 119 141 true).run Tryz.prog w = .ok (.tuple #[.agg #[.string ByteArray.empty], .bool false]) w := by kernel_rfl
@[local go_sem] theorem as4_3 (v : Value) (w : World) : (Instr.typeAssert (.iface 145 v) 119 143 true).run Tryz.prog w = .ok (.tuple #[.agg #[.string ByteArray.empty, .string ByteArray.empty, .slice none 0 0], .bool false]) w := by kernel_rfl
@[local go_sem] theorem as0_4 (w : World) : (Instr.typeAssert .nilIface 119 145 true).run Tryz.prog w = .ok (.tuple #[.agg #[.string ByteArray.empty, .string ByteArray.empty, .string ByteArray.empty], .bool false]) w := by kernel_rfl
@[local go_sem] theorem as5_5 (v : Value) (w : World) : (Instr.typeAssert (.iface 147 v) 119 147 true).run Tryz.prog w = .ok (.tuple #[v, .bool true]) w := by kernel_rfl
@[local go_sem] theorem as5_1 (v : Value) (w : World) : (Instr.typeAssert (.iface 147 v) 119 139 true).run Tryz.prog w = .ok (.tuple #[.agg #[.string ByteArray.empty, .int .i64 0], .bool false]) w := by kernel_rfl
@[local go_sem] theorem as5_2 (v : Value) (w : World) : (Instr.typeAssert (.iface 147 v) 119 141 true).run Tryz.prog w = .ok (.tuple #[.agg #[.string ByteArray.empty], .bool false]) w := by kernel_rfl
@[local go_sem] theorem as5_3 (v : Value) (w : World) : (Instr.typeAssert (.iface 147 v) 119 143 true).run Tryz.prog w = .ok (.tuple #[.agg #[.string ByteArray.empty, .string ByteArray.empty, .slice none 0 0], .bool false]) w := by kernel_rfl
@[local go_sem] theorem as5_4 (v : Value) (w : World) : (Instr.typeAssert (.iface 147 v) 119 145 true).run Tryz.prog w = .ok (.tuple #[.agg #[.string ByteArray.empty, .string ByteArray.empty, .string ByteArray.empty], .bool false]) w := by kernel_rfl
@[local go_sem] theorem as0_5 (w : World) : (Instr.typeAssert .nilIface 119 147 true).run Tryz.prog w = .ok (.tuple #[.agg #[.string ByteArray.empty, .string ByteArray.empty, .string ByteArray.empty, .int .i64 0, .int .i64 0, .string ByteArray.empty], .bool false]) w := by kernel_rfl
@[local go_sem] theorem as6_6 (v : Value) (w : World) : (Instr.typeAssert (.iface 149 v) 119 149 true).run Tryz.prog w = .ok (.tuple #[v, .bool true]) w := by kernel_rfl
@[local go_sem] theorem as6_1 (v : Value) (w : World) : (Instr.typeAssert (.iface 149 v) 119 139 true).run Tryz.prog w = .ok (.tuple #[.agg #[.string ByteArray.empty, .int .i64 0], .bool false]) w := by kernel_rfl
@[local go_sem] theorem as6_2 (v : Value) (w : World) : (Instr.typeAssert (.iface 149 v) 119 141 true).run Tryz.prog w = .ok (.tuple #[.agg #[.string ByteArray.empty], .bool false]) w := by kernel_rfl
@[local go_sem] theorem as6_3 (v : Value) (w : World) : (Instr.typeAssert (.iface 149 v) 119 143 true).run Tryz.prog w = .ok (.tuple #[.agg #[.string ByteArray.empty, .string ByteArray.empty, .slice none 0 0], .bool false]) w := by kernel_rfl
@[local go_sem] theorem as6_4 (v : Value) (w : World) : (Instr.typeAssert (.iface 149 v) 119 145 true).run Tryz.prog w = .ok (.tuple #[.agg #[.string ByteArray.empty, .string ByteArray.empty, .string ByteArray.empty], .bool false]) w := by kernel_rfl
@[local go_sem] theorem as6_5 (v : Value) (w : World) : (Instr.typeAssert (.iface 149 v) 119 147 true).run Tryz.prog w = .ok (.tuple #[.agg #[.string ByteArray.empty, .string ByteArray.empty, .string ByteArray.empty, .int .i64 0, .int .i64 0, .string ByteArray.empty], .bool false]) w := by kernel_rfl
@[local go_sem] theorem as0_6 (w : World) : (Instr.typeAssert .nilIface 119 149 true).run Tryz.prog w = .ok (.tuple #[.agg #[.string ByteArray.empty, .string ByteArray.empty, .string ByteArray.empty, .int .i64 0, .string ByteArray.empty], .bool false]) w := by kernel_rfl
@[local go_sem] theorem as7_7 (v : Value) (w : World) : (Instr.typeAssert (.iface 151 v) 119 151 true).run Tryz.prog w = .ok (.tuple #[v, .bool true]) w := by kernel_rfl
@[local go_sem] theorem as7_1 (v : Value) (w : World) : (Instr.typeAssert (.iface 151 v) 119 139 true).run Tryz.prog w = .ok (.tuple #[.agg #[.string ByteArray.empty, .int .i64 0], .bool false]) w := by kernel_rfl
@[local go_sem] theorem as7_2 (v : Value) (w : World) : (Instr.typeAssert (.iface 151 v) 119 141 true).run Tryz.prog w = .ok (.tuple #[.agg #[.string ByteArray.empty], .bool false]) w := by kernel_rfl
@[local go_sem] theorem as7_3 (v : Value) (w : World) : (Instr.typeAssert (.iface 151 v) 119 143 true).run Tryz.prog w = .ok (.tuple #[.agg #[.string ByteArray.empty, .string ByteArray.empty, .slice none 0 0], .bool false]) w := by kernel_rfl
@[local go_sem] theorem as7_4 (v : Value) (w : World) : (Instr.typeAssert (.iface 151 v) 119 145 true).run Tryz.prog w = .ok (.tuple #[.agg #[.string ByteArray.empty, .string ByteArray.empty, .string ByteArray.empty], .bool false]) w := by kernel_rfl
@[local go_sem] theorem as7_5 (v : Value) (w : World) : (Instr.typeAssert (.iface 151 v) 119 147 true).run Tryz.prog w = .ok (.tuple #[.agg #[.string ByteArray.empty, .string ByteArray.empty, .string ByteArray.empty, .int .i64 0, .int .i64 0, .string ByteArray.empty], .bool false]) w := by kernel_rfl
@[local go_sem] theorem as7_6 (v : Value) (w : World) : (Instr.typeAssert (.iface 151 v) 119 149 true).run Tryz.prog w = .ok (.tuple #[.agg #[.string ByteArray.empty, .string ByteArray.empty, .string ByteArray.empty, .int .i64 0, .string ByteArray.empty], .bool false]) w := by kernel_rfl
@[local go_sem] theorem as0_7 (w : World) : (Instr.typeAssert .nilIface 119 151 true).run Tryz.prog w = .ok (.tuple #[.agg #[.string ByteArray.empty, .string ByteArray.empty, .string ByteArray.empty, .int .i64 0], .bool false]) w := by kernel_rfl
@[local go_sem] theorem as8_8 (v : Value) (w : World) : (Instr.typeAssert (.iface 153 v) 119 153 true).run Tryz.prog w = .ok (.tuple #[v, .bool true]) w := by kernel_rfl
@[local go_sem] theorem as8_1 (v : Value) (w : World) : (Instr.typeAssert (.iface 153 v) 119 139 true).run Tryz.prog w = .ok (.tuple #[.agg #[.string ByteArray.empty, .int .i64 0], .bool false]) w := by kernel_rfl
@[local go_sem] theorem as8_2 (v : Value) (w : World) : (Instr.typeAssert (.iface 153 v) 119 141 true).run Tryz.prog w = .ok (.tuple #[.agg #[.string ByteArray.empty], .bool false]) w := by kernel_rfl
@[local go_sem] theorem as8_3 (v : Value) (w : World) : (Instr.typeAssert (.iface 153 v) 119 143 true).run Tryz.prog w = .ok (.tuple #[.agg #[.string ByteArray.empty, .string ByteArray.empty, .slice none 0 0], .bool false]) w := by kernel_rfl
@[local go_sem] theorem as8_4 (v : Value) (w : World) : (Instr.typeAssert (.iface 153 v) 119 145 true).run Tryz.prog w = .ok (.tuple #[.agg #[.string ByteArray.empty, .string ByteArray.empty, .string ByteArray.empty], .bool false]) w := by kernel_rfl
@[local go_sem] theorem as8_5 (v : Value) (w : World) : (Instr.typeAssert (.iface 153 v) 119 147 true).run Tryz.prog w = .ok (.tuple #[.agg #[.string ByteArray.empty, .string ByteArray.empty, .string ByteArray.empty, .int .i64 0, .int .i64 0, .string ByteArray.empty], .bool false]) w := by kernel_rfl
@[local go_sem] theorem as8_6 (v : Value) (w : World) : (Instr.typeAssert (.iface 153 v) 119 149 true).run Tryz.prog w = .ok (.tuple #[.agg #[.string ByteArray.empty, .string ByteArray.empty, .string ByteArray.empty, .int .i64 0, .string ByteArray.empty], .bool false]) w := by kernel_rfl
@[local go_sem] theorem as8_7 (v : Value) (w : World) : (Instr.typeAssert (.iface 153 v) 119 151 true).run Tryz.prog w = .ok (.tuple #[.agg #[.string ByteArray.empty, .string ByteArray.empty, .string ByteArray.empty, .int .i64 0], .bool false]) w := by kernel_rfl
@[local go_sem] theorem as0_8 (w : World) : (Instr.typeAssert .nilIface 119 153 true).run Tryz.prog w = .ok (.tuple #[.agg #[], .bool false]) w := by kernel_rfl
/-! ### The lines of a posting -/
structure FitInv (w : World) (l : List LineV) (i : Value) (wr : World) (k : Nat) : Prop where
  le : k ≤ l.length
  at_ : i = .int .i64 (k : Int)
  all : ∀ j (hj : j < l.length), j < k → lineB l[j] = true
  bel : Below w.heap.size w wr

theorem fit_no (l : List LineV) (k : Nat) (hk : k < l.length) (h : lineB l[k] = false) : fitB l = false := by
  unfold fitB
  have : l.all lineB = false := by
    rw [Bool.eq_false_iff]
    intro e
    rw [List.all_eq_true] at e
    have := e _ (List.getElem_mem hk)
    rw [h] at this
    cases this
  rw [this]
  rfl

set_option maxRecDepth 100000 in
set_option maxHeartbeats 2000000 in
theorem fit_ev (R : Nat → Prop) (v : Value) (l : List LineV) (w : World) (hl : l.length ≤ 1048576) (hL : LinesAt w R v l) (hsz : ∀ x ∈ l, x.account.size ≤ 1048576 ∧ x.tag.size ≤ 1048576) :
    Calls Tryz.prog 85 #[v] w fun e w' => e = .returned (.bool (fitB l)) ∧ Below w.heap.size w w' := by
  obtain ⟨A, c, hv, hcl⟩ := hL
  rw [List.length_map] at hv
  subst hv
  have HC := Lib.hid hcl
  have HS := Lib.hid hsz
  clear hcl hsz
  obtain ⟨FB, hFB⟩ : ∃ FB, FB = fitB l := ⟨_, rfl⟩
  rw [← hFB]
  have HF := Lib.hid hFB
  clear hFB
  go_enter Tryz.func85, Tryz.ntmps85
  go_wp2
  go_loopw [7] (fun i wr => ∃ k, FitInv w l i wr k) (fun i _ => l.length - (intOf i).toNat)
  case atStart => exact ⟨0, Nat.zero_le _, rfl, fun _ _ h => absurd h (by omega), Below.refl _ _⟩
  case round =>
    obtain ⟨k, hk, rfl, hall, hbel⟩ := hrel
    have HA := Lib.hid hall
    clear hall
    by_cases hlt : k < l.length
    · obtain ⟨ad, rfl, hab, _, hcs⟩ := HC.out k (by rw [List.length_map]; exact hlt)
      rw [List.getElem_map] at hcs
      obtain ⟨hz1, hz2⟩ := HS.out _ (List.getElem_mem hlt)
      have no := fit_no l k hlt
      have NO := Lib.hid no
      obtain ⟨x, hx⟩ : ∃ x, x = l[k] := ⟨_, rfl⟩
      rw [← hx] at hcs hz1 hz2
      have HX := Lib.hid hx
      clear hx no
      have hcw := fun i u hu => (hbel.cell (p := (ad.add (k * 3)).add i) (by rw [block_add, block_add]; exact hab)).trans (hcs i u hu)
      have c0 : wr.cell? (ad.add (k * 3)) = some (.string x.account) := hcw 0 _ rfl
      have c1 : wr.cell? ⟨(ad.add (k * 3)).block, (ad.add (k * 3)).off + 1, none⟩ = some (.int .i64 x.amount) := hcw 1 _ rfl
      have c2 : wr.cell? ⟨(ad.add (k * 3)).block, (ad.add (k * 3)).off + 2, none⟩ = some (.string x.tag) := hcw 2 _ rfl
      clear hcw hcs
      have a1 := fun W => name_ev x.account W hz1
      have a2 := fun W => money_Check x.amount W
      have a3 := fun W => isTag_ev x.tag W (by unfold maxLen; omega)
      have bad : lineB x = false → FB = false := fun h => by rw [HF.out]; exact NO.out (by rw [← HX.out]; exact h)
      have BAD := Lib.hid bad
      clear bad
      have hn0 := hbel.size
      cases h1 : goodB x.account.data.toList with
      | false =>
        rw [h1] at a1
        have hR0 := Lib.hid (BAD.out (by unfold lineB; rw [h1]; rfl))
        clear h1
        go_wp2_with (go_at_call 82; refine (a1 _).mono ?_; rintro e w' ⟨rfl, rfl⟩)
        go_ret
        refine ⟨ret_bool hR0.out.symm, ?_⟩
        exact (hbel.alloc (by omega) _).alloc (by simp; omega) _
      | true =>
        rw [h1] at a1
        have H1 := Lib.hid h1
        clear h1
        by_cases h2 : x.amount = 0
        · have b2 : (x.amount == 0) = true := by simpa using h2
          have hR0 := Lib.hid (BAD.out (by unfold lineB; rw [h2]; simp))
          clear h2
          go_wp2_with (go_at_call 82; refine (a1 _).mono ?_; rintro e w' ⟨rfl, rfl⟩)
          go_ret
          refine ⟨ret_bool hR0.out.symm, ?_⟩
          exact (hbel.alloc (by omega) _).alloc (by simp; omega) _
        · have b2 : (x.amount == 0) = false := by simpa using h2
          by_cases h3 : x.amount = -9223372036854775808
          · have e3 : amtE x.amount = 10 := by unfold amtE; rw [if_pos h3]
            rw [e3] at a2
            have hR0 := Lib.hid (BAD.out (by unfold lineB; rw [h3]; simp))
            clear h2 h3 e3
            go_wp2_with (first
              | (go_at_call 82; refine (a1 _).mono ?_; rintro e w' ⟨rfl, rfl⟩)
              | (go_at_call 122; refine (a2 _).mono ?_; rintro e w' ⟨rfl, rfl⟩))
            go_ret
            refine ⟨ret_bool hR0.out.symm, ?_⟩
            exact (hbel.alloc (by omega) _).alloc (by simp; omega) _
          · have e3 : amtE x.amount = 0 := by unfold amtE; rw [if_neg h3]
            rw [e3] at a2
            cases h4 : tagB x.tag with
            | false =>
              rw [h4] at a3
              have hR0 := Lib.hid (BAD.out (by unfold lineB; rw [h4]; simp))
              clear h2 h3 e3 h4
              go_wp2_with (first
                | (go_at_call 82; refine (a1 _).mono ?_; rintro e w' ⟨rfl, rfl⟩)
                | (go_at_call 122; refine (a2 _).mono ?_; rintro e w' ⟨rfl, rfl⟩)
                | (go_at_call 123; refine (a3 _).mono ?_; rintro e w' ⟨rfl, rfl⟩))
              go_ret
              refine ⟨ret_bool hR0.out.symm, ?_⟩
              exact (hbel.alloc (by omega) _).alloc (by simp; omega) _
            | true =>
              rw [h4] at a3
              have hg := Lib.hid (show lineB x = true by unfold lineB; rw [H1.out, h4]; simp [h2, h3])
              clear h2 h3 e3 h4
              go_wp2_with (first
                | (go_at_call 82; refine (a1 _).mono ?_; rintro e w' ⟨rfl, rfl⟩)
                | (go_at_call 122; refine (a2 _).mono ?_; rintro e w' ⟨rfl, rfl⟩)
                | (go_at_call 123; refine (a3 _).mono ?_; rintro e w' ⟨rfl, rfl⟩))
              go_roundw
              case rel => exact ⟨k + 1, by omega, by go_num, fun j hj hjk => (by
                by_cases e : j = k
                · subst e; rw [← HX.out]; exact hg.out
                · exact HA.out j hj (by omega)), (hbel.alloc (by omega) _).alloc (by simp; omega) _⟩
              case measure => simp [intOf]; omega
    · have hall : l.all lineB = true := List.all_eq_true.2 fun p hp => by
        obtain ⟨j, hj, rfl⟩ := List.getElem_of_mem hp
        exact HA.out j hj (by omega)
      have hR1 := Lib.hid (show FB = decide (2 ≤ l.length ∧ l.length ≤ 12) by rw [HF.out]; unfold fitB; rw [hall]; rfl)
      clear hall
      by_cases h2 : 2 ≤ (l.length : Int)
      · go_wp2
        go_ret
        refine ⟨ret_bool ?_, hbel⟩
        rw [hR1.out]
        first | (exact decide_eq_decide.2 (by omega)) | exact (decide_eq_true (by omega)).symm | exact (decide_eq_false (by omega)).symm
      · have h3 : (l.length : Int) < 2 := by omega
        clear h2
        go_wp2
        go_ret
        refine ⟨ret_bool ?_, hbel⟩
        rw [hR1.out]
        first | (exact decide_eq_decide.2 (by omega)) | exact (decide_eq_true (by omega)).symm | exact (decide_eq_false (by omega)).symm

set_option maxRecDepth 100000 in
set_option maxHeartbeats 2000000 in
theorem good2 (day : Int) (key account other ref ref2 : ByteArray) (typ due amount : Int) (memo : ByteArray) (w : World) (hsaccount : account.size ≤ 1048576) :
    Calls Tryz.prog 53 #[.int .i64 day, .iface 141 (.agg #[.string account])] w fun e w' => e = .returned (.bool (goodB account.data.toList)) ∧ Below w.heap.size w w' := by
  have c0 := name_ev account
  cases h0 : goodB account.data.toList with
  | false =>
    rw [h0] at c0
    have H0 := Lib.hid h0
    clear h0
    go_enter Tryz.func53, Tryz.ntmps53
    go_wp2_with (first
      | (go_at_call 82; refine (c0 _ (hsaccount)).mono ?_; rintro e w' ⟨rfl, rfl⟩; clear c0))
    go_ret
    refine ⟨ret_bool (by simp [H0.out]), ?_⟩
    exact (by first | exact bel1 _ _ | exact bel2 _ _ _ | exact bel3 _ _ _ _ | exact Below.refl _ _)
  | true =>
    rw [h0] at c0
    have H0 := Lib.hid h0
    clear h0
    go_enter Tryz.func53, Tryz.ntmps53
    go_wp2_with (first
      | (go_at_call 82; refine (c0 _ (hsaccount)).mono ?_; rintro e w' ⟨rfl, rfl⟩; clear c0))
    go_ret
    refine ⟨ret_bool (by simp [H0.out]), ?_⟩
    exact (by first | exact bel1 _ _ | exact bel2 _ _ _ | exact bel3 _ _ _ _ | exact Below.refl _ _)
set_option maxRecDepth 100000 in
set_option maxHeartbeats 2000000 in
theorem good4 (day : Int) (key account other ref ref2 : ByteArray) (typ due amount : Int) (memo : ByteArray) (w : World) (hskey : key.size ≤ 1048576) (hsmemo : memo.size ≤ 1048576) (hsref : ref.size ≤ 1048576) :
    Calls Tryz.prog 53 #[.int .i64 day, .iface 145 (.agg #[.string key, .string ref, .string memo])] w fun e w' => e = .returned (.bool (keyB key && keyB ref && memoB memo)) ∧ Below w.heap.size w w' := by
  have c0 := isKey_ev key
  cases h0 : keyB key with
  | false =>
    rw [h0] at c0
    have H0 := Lib.hid h0
    clear h0
    go_enter Tryz.func53, Tryz.ntmps53
    go_wp2_with (first
      | (go_at_call 83; refine (c0 _ (by unfold maxLen; omega)).mono ?_; rintro e w' ⟨rfl, rfl⟩; clear c0))
    go_ret
    refine ⟨ret_bool (by simp [H0.out]), ?_⟩
    exact (by first | exact bel1 _ _ | exact bel2 _ _ _ | exact bel3 _ _ _ _ | exact Below.refl _ _)
  | true =>
    rw [h0] at c0
    have H0 := Lib.hid h0
    clear h0
    have c1 := isKey_ev ref
    cases h1 : keyB ref with
    | false =>
      rw [h1] at c1
      have H1 := Lib.hid h1
      clear h1
      go_enter Tryz.func53, Tryz.ntmps53
      go_wp2_with (first
        | (go_at_call 83; refine (c0 _ (by unfold maxLen; omega)).mono ?_; rintro e w' ⟨rfl, rfl⟩; clear c0)
        | (go_at_call 83; refine (c1 _ (by unfold maxLen; omega)).mono ?_; rintro e w' ⟨rfl, rfl⟩; clear c1))
      go_ret
      refine ⟨ret_bool (by simp [H0.out, H1.out]), ?_⟩
      exact (by first | exact bel1 _ _ | exact bel2 _ _ _ | exact bel3 _ _ _ _ | exact Below.refl _ _)
    | true =>
      rw [h1] at c1
      have H1 := Lib.hid h1
      clear h1
      have c2 := isMemo_ev memo
      cases h2 : memoB memo with
      | false =>
        rw [h2] at c2
        have H2 := Lib.hid h2
        clear h2
        go_enter Tryz.func53, Tryz.ntmps53
        go_wp2_with (first
          | (go_at_call 83; refine (c0 _ (by unfold maxLen; omega)).mono ?_; rintro e w' ⟨rfl, rfl⟩; clear c0)
          | (go_at_call 83; refine (c1 _ (by unfold maxLen; omega)).mono ?_; rintro e w' ⟨rfl, rfl⟩; clear c1)
          | (go_at_call 84; refine (c2 _ (by unfold maxLen; omega)).mono ?_; rintro e w' ⟨rfl, rfl⟩; clear c2))
        go_ret
        refine ⟨ret_bool (by simp [H0.out, H1.out, H2.out]), ?_⟩
        exact (by first | exact bel1 _ _ | exact bel2 _ _ _ | exact bel3 _ _ _ _ | exact Below.refl _ _)
      | true =>
        rw [h2] at c2
        have H2 := Lib.hid h2
        clear h2
        go_enter Tryz.func53, Tryz.ntmps53
        go_wp2_with (first
          | (go_at_call 83; refine (c0 _ (by unfold maxLen; omega)).mono ?_; rintro e w' ⟨rfl, rfl⟩; clear c0)
          | (go_at_call 83; refine (c1 _ (by unfold maxLen; omega)).mono ?_; rintro e w' ⟨rfl, rfl⟩; clear c1)
          | (go_at_call 84; refine (c2 _ (by unfold maxLen; omega)).mono ?_; rintro e w' ⟨rfl, rfl⟩; clear c2))
        go_ret
        refine ⟨ret_bool (by simp [H0.out, H1.out, H2.out]), ?_⟩
        exact (by first | exact bel1 _ _ | exact bel2 _ _ _ | exact bel3 _ _ _ _ | exact Below.refl _ _)
set_option maxRecDepth 100000 in
set_option maxHeartbeats 2000000 in
theorem good5 (day : Int) (key account other ref ref2 : ByteArray) (typ due amount : Int) (memo : ByteArray) (w : World) (hsaccount : account.size ≤ 1048576) (hskey : key.size ≤ 1048576) (hsmemo : memo.size ≤ 1048576) (hsother : other.size ≤ 1048576) :
    Calls Tryz.prog 53 #[.int .i64 day, .iface 147 (.agg #[.string key, .string account, .string other, .int .i64 due, .int .i64 amount, .string memo])] w fun e w' => e = .returned (.bool (keyB key && goodB account.data.toList && goodB other.data.toList && decide (account ≠ other) && dayB due && decide (day ≤ due) && decide (0 < amount) && memoB memo)) ∧ Below w.heap.size w w' := by
  have c0 := isKey_ev key
  cases h0 : keyB key with
  | false =>
    rw [h0] at c0
    have H0 := Lib.hid h0
    clear h0
    go_enter Tryz.func53, Tryz.ntmps53
    go_wp2_with (first
      | (go_at_call 83; refine (c0 _ (by unfold maxLen; omega)).mono ?_; rintro e w' ⟨rfl, rfl⟩; clear c0))
    go_ret
    refine ⟨ret_bool (by simp [H0.out]), ?_⟩
    exact (by first | exact bel1 _ _ | exact bel2 _ _ _ | exact bel3 _ _ _ _ | exact Below.refl _ _)
  | true =>
    rw [h0] at c0
    have H0 := Lib.hid h0
    clear h0
    have c1 := name_ev account
    cases h1 : goodB account.data.toList with
    | false =>
      rw [h1] at c1
      have H1 := Lib.hid h1
      clear h1
      go_enter Tryz.func53, Tryz.ntmps53
      go_wp2_with (first
        | (go_at_call 83; refine (c0 _ (by unfold maxLen; omega)).mono ?_; rintro e w' ⟨rfl, rfl⟩; clear c0)
        | (go_at_call 82; refine (c1 _ (hsaccount)).mono ?_; rintro e w' ⟨rfl, rfl⟩; clear c1))
      go_ret
      refine ⟨ret_bool (by simp [H0.out, H1.out]), ?_⟩
      exact (by first | exact bel1 _ _ | exact bel2 _ _ _ | exact bel3 _ _ _ _ | exact Below.refl _ _)
    | true =>
      rw [h1] at c1
      have H1 := Lib.hid h1
      clear h1
      have c2 := name_ev other
      cases h2 : goodB other.data.toList with
      | false =>
        rw [h2] at c2
        have H2 := Lib.hid h2
        clear h2
        go_enter Tryz.func53, Tryz.ntmps53
        go_wp2_with (first
          | (go_at_call 83; refine (c0 _ (by unfold maxLen; omega)).mono ?_; rintro e w' ⟨rfl, rfl⟩; clear c0)
          | (go_at_call 82; refine (c1 _ (hsaccount)).mono ?_; rintro e w' ⟨rfl, rfl⟩; clear c1)
          | (go_at_call 82; refine (c2 _ (hsother)).mono ?_; rintro e w' ⟨rfl, rfl⟩; clear c2))
        go_ret
        refine ⟨ret_bool (by simp [H0.out, H1.out, H2.out]), ?_⟩
        exact (by first | exact bel1 _ _ | exact bel2 _ _ _ | exact bel3 _ _ _ _ | exact Below.refl _ _)
      | true =>
        rw [h2] at c2
        have H2 := Lib.hid h2
        clear h2
        cases h3 : decide (account ≠ other) with
        | false =>
          have x3 : (account.toList == other.toList) = true := by rw [ByteArray.toList_eq, ByteArray.toList_eq]; rw [show account = other from by simpa using h3]; simp
          have H3 := Lib.hid h3
          clear h3
          go_enter Tryz.func53, Tryz.ntmps53
          go_wp2_with (first
            | (go_at_call 83; refine (c0 _ (by unfold maxLen; omega)).mono ?_; rintro e w' ⟨rfl, rfl⟩; clear c0)
            | (go_at_call 82; refine (c1 _ (hsaccount)).mono ?_; rintro e w' ⟨rfl, rfl⟩; clear c1)
            | (go_at_call 82; refine (c2 _ (hsother)).mono ?_; rintro e w' ⟨rfl, rfl⟩; clear c2))
          go_ret
          refine ⟨ret_bool (by simp [H0.out, H1.out, H2.out, H3.out]), ?_⟩
          exact (by first | exact bel1 _ _ | exact bel2 _ _ _ | exact bel3 _ _ _ _ | exact Below.refl _ _)
        | true =>
          have x3 : (account.toList == other.toList) = false := by rw [ByteArray.toList_eq, ByteArray.toList_eq]; exact beq_eq_false_iff_ne.2 fun e => (of_decide_eq_true h3) (Go.WideShapes.bytes_inj e)
          have H3 := Lib.hid h3
          clear h3
          have c4 := isDay_ev due
          cases h4 : dayB due with
          | false =>
            rw [h4] at c4
            have H4 := Lib.hid h4
            clear h4
            go_enter Tryz.func53, Tryz.ntmps53
            go_wp2_with (first
              | (go_at_call 83; refine (c0 _ (by unfold maxLen; omega)).mono ?_; rintro e w' ⟨rfl, rfl⟩; clear c0)
              | (go_at_call 82; refine (c1 _ (hsaccount)).mono ?_; rintro e w' ⟨rfl, rfl⟩; clear c1)
              | (go_at_call 82; refine (c2 _ (hsother)).mono ?_; rintro e w' ⟨rfl, rfl⟩; clear c2)
              | (go_at_call 52; refine (c4 _).mono ?_; rintro e w' ⟨rfl, rfl⟩; clear c4))
            go_ret
            refine ⟨ret_bool (by simp [H0.out, H1.out, H2.out, H3.out, H4.out]), ?_⟩
            exact (by first | exact bel1 _ _ | exact bel2 _ _ _ | exact bel3 _ _ _ _ | exact Below.refl _ _)
          | true =>
            rw [h4] at c4
            have H4 := Lib.hid h4
            clear h4
            cases h5 : decide (day ≤ due) with
            | false =>
              have x5 : due < day := by simp at h5; omega
              have H5 := Lib.hid h5
              clear h5
              go_enter Tryz.func53, Tryz.ntmps53
              go_wp2_with (first
                | (go_at_call 83; refine (c0 _ (by unfold maxLen; omega)).mono ?_; rintro e w' ⟨rfl, rfl⟩; clear c0)
                | (go_at_call 82; refine (c1 _ (hsaccount)).mono ?_; rintro e w' ⟨rfl, rfl⟩; clear c1)
                | (go_at_call 82; refine (c2 _ (hsother)).mono ?_; rintro e w' ⟨rfl, rfl⟩; clear c2)
                | (go_at_call 52; refine (c4 _).mono ?_; rintro e w' ⟨rfl, rfl⟩; clear c4))
              go_ret
              refine ⟨ret_bool (by simp [H0.out, H1.out, H2.out, H3.out, H4.out, H5.out]), ?_⟩
              exact (by first | exact bel1 _ _ | exact bel2 _ _ _ | exact bel3 _ _ _ _ | exact Below.refl _ _)
            | true =>
              have x5 : day ≤ due := by simp at h5; omega
              have H5 := Lib.hid h5
              clear h5
              cases h6 : decide (0 < amount) with
              | false =>
                have x6 : amount ≤ 0 := by simp at h6; omega
                have H6 := Lib.hid h6
                clear h6
                go_enter Tryz.func53, Tryz.ntmps53
                go_wp2_with (first
                  | (go_at_call 83; refine (c0 _ (by unfold maxLen; omega)).mono ?_; rintro e w' ⟨rfl, rfl⟩; clear c0)
                  | (go_at_call 82; refine (c1 _ (hsaccount)).mono ?_; rintro e w' ⟨rfl, rfl⟩; clear c1)
                  | (go_at_call 82; refine (c2 _ (hsother)).mono ?_; rintro e w' ⟨rfl, rfl⟩; clear c2)
                  | (go_at_call 52; refine (c4 _).mono ?_; rintro e w' ⟨rfl, rfl⟩; clear c4))
                go_ret
                refine ⟨ret_bool (by simp [H0.out, H1.out, H2.out, H3.out, H4.out, H5.out, H6.out]), ?_⟩
                exact (by first | exact bel1 _ _ | exact bel2 _ _ _ | exact bel3 _ _ _ _ | exact Below.refl _ _)
              | true =>
                have x6 : 0 < amount := by simp at h6; omega
                have H6 := Lib.hid h6
                clear h6
                have c7 := isMemo_ev memo
                cases h7 : memoB memo with
                | false =>
                  rw [h7] at c7
                  have H7 := Lib.hid h7
                  clear h7
                  go_enter Tryz.func53, Tryz.ntmps53
                  go_wp2_with (first
                    | (go_at_call 83; refine (c0 _ (by unfold maxLen; omega)).mono ?_; rintro e w' ⟨rfl, rfl⟩; clear c0)
                    | (go_at_call 82; refine (c1 _ (hsaccount)).mono ?_; rintro e w' ⟨rfl, rfl⟩; clear c1)
                    | (go_at_call 82; refine (c2 _ (hsother)).mono ?_; rintro e w' ⟨rfl, rfl⟩; clear c2)
                    | (go_at_call 52; refine (c4 _).mono ?_; rintro e w' ⟨rfl, rfl⟩; clear c4)
                    | (go_at_call 84; refine (c7 _ (by unfold maxLen; omega)).mono ?_; rintro e w' ⟨rfl, rfl⟩; clear c7))
                  go_ret
                  refine ⟨ret_bool (by simp [H0.out, H1.out, H2.out, H3.out, H4.out, H5.out, H6.out, H7.out]), ?_⟩
                  exact (by first | exact bel1 _ _ | exact bel2 _ _ _ | exact bel3 _ _ _ _ | exact Below.refl _ _)
                | true =>
                  rw [h7] at c7
                  have H7 := Lib.hid h7
                  clear h7
                  go_enter Tryz.func53, Tryz.ntmps53
                  go_wp2_with (first
                    | (go_at_call 83; refine (c0 _ (by unfold maxLen; omega)).mono ?_; rintro e w' ⟨rfl, rfl⟩; clear c0)
                    | (go_at_call 82; refine (c1 _ (hsaccount)).mono ?_; rintro e w' ⟨rfl, rfl⟩; clear c1)
                    | (go_at_call 82; refine (c2 _ (hsother)).mono ?_; rintro e w' ⟨rfl, rfl⟩; clear c2)
                    | (go_at_call 52; refine (c4 _).mono ?_; rintro e w' ⟨rfl, rfl⟩; clear c4)
                    | (go_at_call 84; refine (c7 _ (by unfold maxLen; omega)).mono ?_; rintro e w' ⟨rfl, rfl⟩; clear c7))
                  go_ret
                  refine ⟨ret_bool (by simp [H0.out, H1.out, H2.out, H3.out, H4.out, H5.out, H6.out, H7.out]), ?_⟩
                  exact (by first | exact bel1 _ _ | exact bel2 _ _ _ | exact bel3 _ _ _ _ | exact Below.refl _ _)
set_option maxRecDepth 100000 in
set_option maxHeartbeats 2000000 in
theorem good6 (day : Int) (key account other ref ref2 : ByteArray) (typ due amount : Int) (memo : ByteArray) (w : World) (hsaccount : account.size ≤ 1048576) (hskey : key.size ≤ 1048576) (hsmemo : memo.size ≤ 1048576) (hsother : other.size ≤ 1048576) :
    Calls Tryz.prog 53 #[.int .i64 day, .iface 149 (.agg #[.string key, .string account, .string other, .int .i64 amount, .string memo])] w fun e w' => e = .returned (.bool (keyB key && goodB account.data.toList && goodB other.data.toList && decide (account ≠ other) && decide (0 < amount) && memoB memo)) ∧ Below w.heap.size w w' := by
  have c0 := isKey_ev key
  cases h0 : keyB key with
  | false =>
    rw [h0] at c0
    have H0 := Lib.hid h0
    clear h0
    go_enter Tryz.func53, Tryz.ntmps53
    go_wp2_with (first
      | (go_at_call 83; refine (c0 _ (by unfold maxLen; omega)).mono ?_; rintro e w' ⟨rfl, rfl⟩; clear c0))
    go_ret
    refine ⟨ret_bool (by simp [H0.out]), ?_⟩
    exact (by first | exact bel1 _ _ | exact bel2 _ _ _ | exact bel3 _ _ _ _ | exact Below.refl _ _)
  | true =>
    rw [h0] at c0
    have H0 := Lib.hid h0
    clear h0
    have c1 := name_ev account
    cases h1 : goodB account.data.toList with
    | false =>
      rw [h1] at c1
      have H1 := Lib.hid h1
      clear h1
      go_enter Tryz.func53, Tryz.ntmps53
      go_wp2_with (first
        | (go_at_call 83; refine (c0 _ (by unfold maxLen; omega)).mono ?_; rintro e w' ⟨rfl, rfl⟩; clear c0)
        | (go_at_call 82; refine (c1 _ (hsaccount)).mono ?_; rintro e w' ⟨rfl, rfl⟩; clear c1))
      go_ret
      refine ⟨ret_bool (by simp [H0.out, H1.out]), ?_⟩
      exact (by first | exact bel1 _ _ | exact bel2 _ _ _ | exact bel3 _ _ _ _ | exact Below.refl _ _)
    | true =>
      rw [h1] at c1
      have H1 := Lib.hid h1
      clear h1
      have c2 := name_ev other
      cases h2 : goodB other.data.toList with
      | false =>
        rw [h2] at c2
        have H2 := Lib.hid h2
        clear h2
        go_enter Tryz.func53, Tryz.ntmps53
        go_wp2_with (first
          | (go_at_call 83; refine (c0 _ (by unfold maxLen; omega)).mono ?_; rintro e w' ⟨rfl, rfl⟩; clear c0)
          | (go_at_call 82; refine (c1 _ (hsaccount)).mono ?_; rintro e w' ⟨rfl, rfl⟩; clear c1)
          | (go_at_call 82; refine (c2 _ (hsother)).mono ?_; rintro e w' ⟨rfl, rfl⟩; clear c2))
        go_ret
        refine ⟨ret_bool (by simp [H0.out, H1.out, H2.out]), ?_⟩
        exact (by first | exact bel1 _ _ | exact bel2 _ _ _ | exact bel3 _ _ _ _ | exact Below.refl _ _)
      | true =>
        rw [h2] at c2
        have H2 := Lib.hid h2
        clear h2
        cases h3 : decide (account ≠ other) with
        | false =>
          have x3 : (account.toList == other.toList) = true := by rw [ByteArray.toList_eq, ByteArray.toList_eq]; rw [show account = other from by simpa using h3]; simp
          have H3 := Lib.hid h3
          clear h3
          go_enter Tryz.func53, Tryz.ntmps53
          go_wp2_with (first
            | (go_at_call 83; refine (c0 _ (by unfold maxLen; omega)).mono ?_; rintro e w' ⟨rfl, rfl⟩; clear c0)
            | (go_at_call 82; refine (c1 _ (hsaccount)).mono ?_; rintro e w' ⟨rfl, rfl⟩; clear c1)
            | (go_at_call 82; refine (c2 _ (hsother)).mono ?_; rintro e w' ⟨rfl, rfl⟩; clear c2))
          go_ret
          refine ⟨ret_bool (by simp [H0.out, H1.out, H2.out, H3.out]), ?_⟩
          exact (by first | exact bel1 _ _ | exact bel2 _ _ _ | exact bel3 _ _ _ _ | exact Below.refl _ _)
        | true =>
          have x3 : (account.toList == other.toList) = false := by rw [ByteArray.toList_eq, ByteArray.toList_eq]; exact beq_eq_false_iff_ne.2 fun e => (of_decide_eq_true h3) (Go.WideShapes.bytes_inj e)
          have H3 := Lib.hid h3
          clear h3
          cases h4 : decide (0 < amount) with
          | false =>
            have x4 : amount ≤ 0 := by simp at h4; omega
            have H4 := Lib.hid h4
            clear h4
            go_enter Tryz.func53, Tryz.ntmps53
            go_wp2_with (first
              | (go_at_call 83; refine (c0 _ (by unfold maxLen; omega)).mono ?_; rintro e w' ⟨rfl, rfl⟩; clear c0)
              | (go_at_call 82; refine (c1 _ (hsaccount)).mono ?_; rintro e w' ⟨rfl, rfl⟩; clear c1)
              | (go_at_call 82; refine (c2 _ (hsother)).mono ?_; rintro e w' ⟨rfl, rfl⟩; clear c2))
            go_ret
            refine ⟨ret_bool (by simp [H0.out, H1.out, H2.out, H3.out, H4.out]), ?_⟩
            exact (by first | exact bel1 _ _ | exact bel2 _ _ _ | exact bel3 _ _ _ _ | exact Below.refl _ _)
          | true =>
            have x4 : 0 < amount := by simp at h4; omega
            have H4 := Lib.hid h4
            clear h4
            have c5 := isMemo_ev memo
            cases h5 : memoB memo with
            | false =>
              rw [h5] at c5
              have H5 := Lib.hid h5
              clear h5
              go_enter Tryz.func53, Tryz.ntmps53
              go_wp2_with (first
                | (go_at_call 83; refine (c0 _ (by unfold maxLen; omega)).mono ?_; rintro e w' ⟨rfl, rfl⟩; clear c0)
                | (go_at_call 82; refine (c1 _ (hsaccount)).mono ?_; rintro e w' ⟨rfl, rfl⟩; clear c1)
                | (go_at_call 82; refine (c2 _ (hsother)).mono ?_; rintro e w' ⟨rfl, rfl⟩; clear c2)
                | (go_at_call 84; refine (c5 _ (by unfold maxLen; omega)).mono ?_; rintro e w' ⟨rfl, rfl⟩; clear c5))
              go_ret
              refine ⟨ret_bool (by simp [H0.out, H1.out, H2.out, H3.out, H4.out, H5.out]), ?_⟩
              exact (by first | exact bel1 _ _ | exact bel2 _ _ _ | exact bel3 _ _ _ _ | exact Below.refl _ _)
            | true =>
              rw [h5] at c5
              have H5 := Lib.hid h5
              clear h5
              go_enter Tryz.func53, Tryz.ntmps53
              go_wp2_with (first
                | (go_at_call 83; refine (c0 _ (by unfold maxLen; omega)).mono ?_; rintro e w' ⟨rfl, rfl⟩; clear c0)
                | (go_at_call 82; refine (c1 _ (hsaccount)).mono ?_; rintro e w' ⟨rfl, rfl⟩; clear c1)
                | (go_at_call 82; refine (c2 _ (hsother)).mono ?_; rintro e w' ⟨rfl, rfl⟩; clear c2)
                | (go_at_call 84; refine (c5 _ (by unfold maxLen; omega)).mono ?_; rintro e w' ⟨rfl, rfl⟩; clear c5))
              go_ret
              refine ⟨ret_bool (by simp [H0.out, H1.out, H2.out, H3.out, H4.out, H5.out]), ?_⟩
              exact (by first | exact bel1 _ _ | exact bel2 _ _ _ | exact bel3 _ _ _ _ | exact Below.refl _ _)
set_option maxRecDepth 100000 in
set_option maxHeartbeats 2000000 in
theorem good7 (day : Int) (key account other ref ref2 : ByteArray) (typ due amount : Int) (memo : ByteArray) (w : World) (hskey : key.size ≤ 1048576) (hsref : ref.size ≤ 1048576) (hsref2 : ref2.size ≤ 1048576) :
    Calls Tryz.prog 53 #[.int .i64 day, .iface 151 (.agg #[.string key, .string ref, .string ref2, .int .i64 amount])] w fun e w' => e = .returned (.bool (keyB key && keyB ref && keyB ref2 && decide (0 < amount))) ∧ Below w.heap.size w w' := by
  have c0 := isKey_ev key
  cases h0 : keyB key with
  | false =>
    rw [h0] at c0
    have H0 := Lib.hid h0
    clear h0
    go_enter Tryz.func53, Tryz.ntmps53
    go_wp2_with (first
      | (go_at_call 83; refine (c0 _ (by unfold maxLen; omega)).mono ?_; rintro e w' ⟨rfl, rfl⟩; clear c0))
    go_ret
    refine ⟨ret_bool (by simp [H0.out]), ?_⟩
    exact (by first | exact bel1 _ _ | exact bel2 _ _ _ | exact bel3 _ _ _ _ | exact Below.refl _ _)
  | true =>
    rw [h0] at c0
    have H0 := Lib.hid h0
    clear h0
    have c1 := isKey_ev ref
    cases h1 : keyB ref with
    | false =>
      rw [h1] at c1
      have H1 := Lib.hid h1
      clear h1
      go_enter Tryz.func53, Tryz.ntmps53
      go_wp2_with (first
        | (go_at_call 83; refine (c0 _ (by unfold maxLen; omega)).mono ?_; rintro e w' ⟨rfl, rfl⟩; clear c0)
        | (go_at_call 83; refine (c1 _ (by unfold maxLen; omega)).mono ?_; rintro e w' ⟨rfl, rfl⟩; clear c1))
      go_ret
      refine ⟨ret_bool (by simp [H0.out, H1.out]), ?_⟩
      exact (by first | exact bel1 _ _ | exact bel2 _ _ _ | exact bel3 _ _ _ _ | exact Below.refl _ _)
    | true =>
      rw [h1] at c1
      have H1 := Lib.hid h1
      clear h1
      have c2 := isKey_ev ref2
      cases h2 : keyB ref2 with
      | false =>
        rw [h2] at c2
        have H2 := Lib.hid h2
        clear h2
        go_enter Tryz.func53, Tryz.ntmps53
        go_wp2_with (first
          | (go_at_call 83; refine (c0 _ (by unfold maxLen; omega)).mono ?_; rintro e w' ⟨rfl, rfl⟩; clear c0)
          | (go_at_call 83; refine (c1 _ (by unfold maxLen; omega)).mono ?_; rintro e w' ⟨rfl, rfl⟩; clear c1)
          | (go_at_call 83; refine (c2 _ (by unfold maxLen; omega)).mono ?_; rintro e w' ⟨rfl, rfl⟩; clear c2))
        go_ret
        refine ⟨ret_bool (by simp [H0.out, H1.out, H2.out]), ?_⟩
        exact (by first | exact bel1 _ _ | exact bel2 _ _ _ | exact bel3 _ _ _ _ | exact Below.refl _ _)
      | true =>
        rw [h2] at c2
        have H2 := Lib.hid h2
        clear h2
        cases h3 : decide (0 < amount) with
        | false =>
          have x3 : amount ≤ 0 := by simp at h3; omega
          have H3 := Lib.hid h3
          clear h3
          go_enter Tryz.func53, Tryz.ntmps53
          go_wp2_with (first
            | (go_at_call 83; refine (c0 _ (by unfold maxLen; omega)).mono ?_; rintro e w' ⟨rfl, rfl⟩; clear c0)
            | (go_at_call 83; refine (c1 _ (by unfold maxLen; omega)).mono ?_; rintro e w' ⟨rfl, rfl⟩; clear c1)
            | (go_at_call 83; refine (c2 _ (by unfold maxLen; omega)).mono ?_; rintro e w' ⟨rfl, rfl⟩; clear c2))
          go_ret
          refine ⟨ret_bool (by simp [H0.out, H1.out, H2.out, H3.out]), ?_⟩
          exact (by first | exact bel1 _ _ | exact bel2 _ _ _ | exact bel3 _ _ _ _ | exact Below.refl _ _)
        | true =>
          have x3 : 0 < amount := by simp at h3; omega
          have H3 := Lib.hid h3
          clear h3
          go_enter Tryz.func53, Tryz.ntmps53
          go_wp2_with (first
            | (go_at_call 83; refine (c0 _ (by unfold maxLen; omega)).mono ?_; rintro e w' ⟨rfl, rfl⟩; clear c0)
            | (go_at_call 83; refine (c1 _ (by unfold maxLen; omega)).mono ?_; rintro e w' ⟨rfl, rfl⟩; clear c1)
            | (go_at_call 83; refine (c2 _ (by unfold maxLen; omega)).mono ?_; rintro e w' ⟨rfl, rfl⟩; clear c2))
          go_ret
          refine ⟨ret_bool (by simp [H0.out, H1.out, H2.out, H3.out]), ?_⟩
          exact (by first | exact bel1 _ _ | exact bel2 _ _ _ | exact bel3 _ _ _ _ | exact Below.refl _ _)
set_option maxRecDepth 100000 in
theorem good8 (day : Int) (w : World) : Calls Tryz.prog 53 #[.int .i64 day, .iface 153 (.agg #[])] w fun e w' => e = .returned (.bool true) ∧ Below w.heap.size w w' := by
  go_enter Tryz.func53, Tryz.ntmps53
  go_wp2
  go_ret
  refine ⟨rfl, ?_⟩
  exact (by first | exact bel1 _ _ | exact bel2 _ _ _ | exact bel3 _ _ _ _ | exact Below.refl _ _)
set_option maxRecDepth 100000 in
theorem good0 (day : Int) (w : World) : Calls Tryz.prog 53 #[.int .i64 day, .nilIface] w fun e w' => e = .returned (.bool false) ∧ Below w.heap.size w w' := by
  go_enter Tryz.func53, Tryz.ntmps53
  go_wp2
  go_ret
  refine ⟨rfl, ?_⟩
  exact (by first | exact bel1 _ _ | exact bel2 _ _ _ | exact bel3 _ _ _ _ | exact Below.refl _ _)
set_option maxRecDepth 100000 in
set_option maxHeartbeats 2000000 in
theorem good1 (day : Int) (account : ByteArray) (typ : Int) (w : World) (hsaccount : account.size ≤ 1048576) :
    Calls Tryz.prog 53 #[.int .i64 day, .iface 139 (.agg #[.string account, .int .i64 typ])] w fun e w' => e = .returned (.bool (goodB account.data.toList && (rootB account && decide (1 ≤ typ) && decide (typ ≤ 5) || !rootB account && typ == 0))) ∧ Below w.heap.size w w' := by
  have c0 := fun W => Tryz.strings_Contains_one account 58 W
  have c1 := name_ev account
  have hr : (decide (0 ≤ Lib.indexByte account.data.toList 58)) = !rootB account := by unfold rootB; simp
  rw [hr] at c0
  clear hr
  cases h1 : goodB account.data.toList with
  | false =>
    rw [h1] at c1
    have H1 := Lib.hid h1
    clear h1
    cases h0 : rootB account with
    | false =>
      rw [h0] at c0
      clear h0
      go_enter Tryz.func53, Tryz.ntmps53
      go_wp2_with (first
        | (go_at_call 81; refine (c0 _).mono ?_; rintro e w' ⟨rfl, hw⟩; subst hw; clear c0)
        | (go_at_call 82; refine (c1 _ hsaccount).mono ?_; rintro e w' ⟨rfl, rfl⟩; clear c1))
      go_ret
      exact ⟨rfl, (by first | exact bel1 _ _ | exact bel2 _ _ _ | exact bel3 _ _ _ _ | exact Below.refl _ _)⟩
    | true =>
      rw [h0] at c0
      clear h0
      go_enter Tryz.func53, Tryz.ntmps53
      go_wp2_with (first
        | (go_at_call 81; refine (c0 _).mono ?_; rintro e w' ⟨rfl, hw⟩; subst hw; clear c0)
        | (go_at_call 82; refine (c1 _ hsaccount).mono ?_; rintro e w' ⟨rfl, rfl⟩; clear c1))
      go_ret
      exact ⟨rfl, (by first | exact bel1 _ _ | exact bel2 _ _ _ | exact bel3 _ _ _ _ | exact Below.refl _ _)⟩
  | true =>
    rw [h1] at c1
    clear h1
    cases h0 : rootB account with
    | false =>
      rw [h0] at c0
      clear h0
      cases h2 : (typ == 0) with
      | false =>
        go_enter Tryz.func53, Tryz.ntmps53
        go_wp2_with (first
          | (go_at_call 81; refine (c0 _).mono ?_; rintro e w' ⟨rfl, hw⟩; subst hw; clear c0)
          | (go_at_call 82; refine (c1 _ hsaccount).mono ?_; rintro e w' ⟨rfl, rfl⟩; clear c1))
        go_ret
        exact ⟨rfl, (by first | exact bel1 _ _ | exact bel2 _ _ _ | exact bel3 _ _ _ _ | exact Below.refl _ _)⟩
      | true =>
        go_enter Tryz.func53, Tryz.ntmps53
        go_wp2_with (first
          | (go_at_call 81; refine (c0 _).mono ?_; rintro e w' ⟨rfl, hw⟩; subst hw; clear c0)
          | (go_at_call 82; refine (c1 _ hsaccount).mono ?_; rintro e w' ⟨rfl, rfl⟩; clear c1))
        go_ret
        exact ⟨rfl, (by first | exact bel1 _ _ | exact bel2 _ _ _ | exact bel3 _ _ _ _ | exact Below.refl _ _)⟩
    | true =>
      rw [h0] at c0
      clear h0
      by_cases h2 : 1 ≤ typ
      · by_cases h3 : typ ≤ 5
        · rw [decide_eq_true h2, decide_eq_true h3]
          go_enter Tryz.func53, Tryz.ntmps53
          go_wp2_with (first
            | (go_at_call 81; refine (c0 _).mono ?_; rintro e w' ⟨rfl, hw⟩; subst hw; clear c0)
            | (go_at_call 82; refine (c1 _ hsaccount).mono ?_; rintro e w' ⟨rfl, rfl⟩; clear c1))
          go_ret
          exact ⟨rfl, (by first | exact bel1 _ _ | exact bel2 _ _ _ | exact bel3 _ _ _ _ | exact Below.refl _ _)⟩
        · rw [decide_eq_true h2, decide_eq_false h3]
          have h4 : decide (typ ≤ 5) = false := decide_eq_false h3
          go_enter Tryz.func53, Tryz.ntmps53
          go_wp2_with (first
            | (go_at_call 81; refine (c0 _).mono ?_; rintro e w' ⟨rfl, hw⟩; subst hw; clear c0)
            | (go_at_call 82; refine (c1 _ hsaccount).mono ?_; rintro e w' ⟨rfl, rfl⟩; clear c1))
          go_ret
          exact ⟨rfl, (by first | exact bel1 _ _ | exact bel2 _ _ _ | exact bel3 _ _ _ _ | exact Below.refl _ _)⟩
      · rw [decide_eq_false h2]
        have h4 : typ < 1 := by omega
        clear h2
        go_enter Tryz.func53, Tryz.ntmps53
        go_wp2_with (first
          | (go_at_call 81; refine (c0 _).mono ?_; rintro e w' ⟨rfl, hw⟩; subst hw; clear c0)
          | (go_at_call 82; refine (c1 _ hsaccount).mono ?_; rintro e w' ⟨rfl, rfl⟩; clear c1))
        go_ret
        exact ⟨by simp, (by first | exact bel1 _ _ | exact bel2 _ _ _ | exact bel3 _ _ _ _ | exact Below.refl _ _)⟩
set_option maxRecDepth 100000 in
set_option maxHeartbeats 2000000 in
theorem good3 (day : Int) (key memo : ByteArray) (R : Nat → Prop) (A : Option Addr) (n c : Nat) (l : List LineV) (w : World) (hskey : key.size ≤ 1048576) (hsmemo : memo.size ≤ 1048576)
    (hl : l.length ≤ 1048576) (hL : LinesAt w R (.slice A n c) l) (hsz : ∀ x ∈ l, x.account.size ≤ 1048576 ∧ x.tag.size ≤ 1048576) :
    Calls Tryz.prog 53 #[.int .i64 day, .iface 143 (.agg #[.string key, .string memo, .slice A n c])] w fun e w' => e = .returned (.bool (keyB key && memoB memo && fitB l)) ∧ Below w.heap.size w w' := by
  have c0 := isKey_ev key
  have c1 := isMemo_ev memo
  have c2 := fun o => fit_ev R (.slice A n c) l (w.alloc o) hl (hL.below (bel1 w o)) hsz
  cases h0 : keyB key with
  | false =>
    rw [h0] at c0
    clear h0
    go_enter Tryz.func53, Tryz.ntmps53
    go_wp2_with (go_at_call 83; refine (c0 _ (by unfold maxLen; omega)).mono ?_; rintro e w' ⟨rfl, rfl⟩; clear c0)
    go_ret
    exact ⟨by simp, (by first | exact bel1 _ _ | exact bel2 _ _ _ | exact bel3 _ _ _ _ | exact Below.refl _ _)⟩
  | true =>
    rw [h0] at c0
    clear h0
    cases h1 : memoB memo with
    | false =>
      rw [h1] at c1
      clear h1
      go_enter Tryz.func53, Tryz.ntmps53
      go_wp2_with (first
        | (go_at_call 83; refine (c0 _ (by unfold maxLen; omega)).mono ?_; rintro e w' ⟨rfl, rfl⟩; clear c0)
        | (go_at_call 84; refine (c1 _ (by unfold maxLen; omega)).mono ?_; rintro e w' ⟨rfl, rfl⟩; clear c1))
      go_ret
      exact ⟨by simp, (by first | exact bel1 _ _ | exact bel2 _ _ _ | exact bel3 _ _ _ _ | exact Below.refl _ _)⟩
    | true =>
      rw [h1] at c1
      clear h1
      go_enter Tryz.func53, Tryz.ntmps53
      go_wp2_with (first
        | (go_at_call 83; refine (c0 _ (by unfold maxLen; omega)).mono ?_; rintro e w' ⟨rfl, rfl⟩; clear c0)
        | (go_at_call 84; refine (c1 _ (by unfold maxLen; omega)).mono ?_; rintro e w' ⟨rfl, rfl⟩; clear c1)
        | (go_at_call 85; refine (c2 _).mono ?_; rintro e w' ⟨rfl, hb⟩; clear c2))
      go_ret
      exact ⟨by simp, (bel1 w _).trans (hb.mono (by simp))⟩
end Go.Proofs.YtgocoofcelggcaaGreatDoor
namespace Go.Proofs.YtgocoofcelggcaaGreatDoor
open Go.RowKit
set_option linter.unusedVariables false
set_option linter.unusedSimpArgs false

/-! ### Which method an event's content calls -/
@[local go_sem] theorem me1 (v : Value) (w : World) : (method 339 139 v "daybook/event.kind").run Tryz.prog w = .ok (179, v) w := by kernel_rfl
@[local go_sem] theorem me2 (v : Value) (w : World) : (method 339 141 v "daybook/event.kind").run Tryz.prog w = .ok (180, v) w := by kernel_rfl
@[local go_sem] theorem me3 (v : Value) (w : World) : (method 339 143 v "daybook/event.kind").run Tryz.prog w = .ok (181, v) w := by kernel_rfl
@[local go_sem] theorem me4 (v : Value) (w : World) : (method 339 145 v "daybook/event.kind").run Tryz.prog w = .ok (182, v) w := by kernel_rfl
@[local go_sem] theorem me5 (v : Value) (w : World) : (method 339 147 v "daybook/event.kind").run Tryz.prog w = .ok (183, v) w := by kernel_rfl
@[local go_sem] theorem me6 (v : Value) (w : World) : (method 339 149 v "daybook/event.kind").run Tryz.prog w = .ok (184, v) w := by kernel_rfl
@[local go_sem] theorem me7 (v : Value) (w : World) : (method 339 151 v "daybook/event.kind").run Tryz.prog w = .ok (185, v) w := by kernel_rfl
@[local go_sem] theorem me8 (v : Value) (w : World) : (method 339 153 v "daybook/event.kind").run Tryz.prog w = .ok (186, v) w := by kernel_rfl
theorem kind1 (day : Int) (key account other ref ref2 : ByteArray) (typ due amount : Int) (memo : ByteArray) (A : Option Addr) (n c : Nat) (w : World) : Calls Tryz.prog 179 #[.agg #[.string account, .int .i64 typ]] w fun e w' => e = .returned (.int .i64 1) ∧ w.alloc (.cells #[.string account, .int .i64 typ] 139) = w' := by
  go_enter Tryz.func179, Tryz.ntmps179
  go_wp2
  go_ret
  exact ⟨rfl, rfl⟩
theorem kind2 (day : Int) (key account other ref ref2 : ByteArray) (typ due amount : Int) (memo : ByteArray) (A : Option Addr) (n c : Nat) (w : World) : Calls Tryz.prog 180 #[.agg #[.string account]] w fun e w' => e = .returned (.int .i64 2) ∧ w.alloc (.cells #[.string account] 141) = w' := by
  go_enter Tryz.func180, Tryz.ntmps180
  go_wp2
  go_ret
  exact ⟨rfl, rfl⟩
theorem kind3 (day : Int) (key account other ref ref2 : ByteArray) (typ due amount : Int) (memo : ByteArray) (A : Option Addr) (n c : Nat) (w : World) : Calls Tryz.prog 181 #[.agg #[.string key, .string memo, .slice A n c]] w fun e w' => e = .returned (.int .i64 3) ∧ w.alloc (.cells #[.string key, .string memo, .slice A n c] 143) = w' := by
  go_enter Tryz.func181, Tryz.ntmps181
  go_wp2
  go_ret
  exact ⟨rfl, rfl⟩
theorem kind4 (day : Int) (key account other ref ref2 : ByteArray) (typ due amount : Int) (memo : ByteArray) (A : Option Addr) (n c : Nat) (w : World) : Calls Tryz.prog 182 #[.agg #[.string key, .string ref, .string memo]] w fun e w' => e = .returned (.int .i64 4) ∧ w.alloc (.cells #[.string key, .string ref, .string memo] 145) = w' := by
  go_enter Tryz.func182, Tryz.ntmps182
  go_wp2
  go_ret
  exact ⟨rfl, rfl⟩
theorem kind5 (day : Int) (key account other ref ref2 : ByteArray) (typ due amount : Int) (memo : ByteArray) (A : Option Addr) (n c : Nat) (w : World) : Calls Tryz.prog 183 #[.agg #[.string key, .string account, .string other, .int .i64 due, .int .i64 amount, .string memo]] w fun e w' => e = .returned (.int .i64 5) ∧ w.alloc (.cells #[.string key, .string account, .string other, .int .i64 due, .int .i64 amount, .string memo] 147) = w' := by
  go_enter Tryz.func183, Tryz.ntmps183
  go_wp2
  go_ret
  exact ⟨rfl, rfl⟩
theorem kind6 (day : Int) (key account other ref ref2 : ByteArray) (typ due amount : Int) (memo : ByteArray) (A : Option Addr) (n c : Nat) (w : World) : Calls Tryz.prog 184 #[.agg #[.string key, .string account, .string other, .int .i64 amount, .string memo]] w fun e w' => e = .returned (.int .i64 6) ∧ w.alloc (.cells #[.string key, .string account, .string other, .int .i64 amount, .string memo] 149) = w' := by
  go_enter Tryz.func184, Tryz.ntmps184
  go_wp2
  go_ret
  exact ⟨rfl, rfl⟩
theorem kind7 (day : Int) (key account other ref ref2 : ByteArray) (typ due amount : Int) (memo : ByteArray) (A : Option Addr) (n c : Nat) (w : World) : Calls Tryz.prog 185 #[.agg #[.string key, .string ref, .string ref2, .int .i64 amount]] w fun e w' => e = .returned (.int .i64 7) ∧ w.alloc (.cells #[.string key, .string ref, .string ref2, .int .i64 amount] 151) = w' := by
  go_enter Tryz.func185, Tryz.ntmps185
  go_wp2
  go_ret
  exact ⟨rfl, rfl⟩
theorem kind8 (day : Int) (key account other ref ref2 : ByteArray) (typ due amount : Int) (memo : ByteArray) (A : Option Addr) (n c : Nat) (w : World) : Calls Tryz.prog 186 #[.agg #[]] w fun e w' => e = .returned (.int .i64 8) ∧ w.alloc (.cells #[] 153) = w' := by
  go_enter Tryz.func186, Tryz.ntmps186
  go_wp2
  go_ret
  exact ⟨rfl, rfl⟩

theorem bel4 (w : World) (o p q r : Obj) : Below w.heap.size w ((((w.alloc o).alloc p).alloc q).alloc r) := (bel3 w o p q).alloc (by simp; omega) _
theorem bel4d (w : World) (o p q r : Obj) : Below w.heap.size w ((((w.alloc o).alloc p).alloc q).alloc r).drew := (bel4 w o p q r).drew
@[local go_sem] theorem bs1_1 (v : Value) (w : World) : (Instr.typeAssert (.iface 139 v) 119 139 true).run Tryz.prog w = .ok (.tuple #[v, .bool true]) w := as1_1 v w
@[local go_sem] theorem bs2_2 (v : Value) (w : World) : (Instr.typeAssert (.iface 141 v) 119 141 true).run Tryz.prog w = .ok (.tuple #[v, .bool true]) w := as2_2 v w
@[local go_sem] theorem bs2_1 (v : Value) (w : World) : (Instr.typeAssert (.iface 141 v) 119 139 true).run Tryz.prog w = .ok (.tuple #[.agg #[.string ByteArray.empty, .int .i64 0], .bool false]) w := as2_1 v w
@[local go_sem] theorem bs3_3 (v : Value) (w : World) : (Instr.typeAssert (.iface 143 v) 119 143 true).run Tryz.prog w = .ok (.tuple #[v, .bool true]) w := as3_3 v w
@[local go_sem] theorem bs3_1 (v : Value) (w : World) : (Instr.typeAssert (.iface 143 v) 119 139 true).run Tryz.prog w = .ok (.tuple #[.agg #[.string ByteArray.empty, .int .i64 0], .bool false]) w := as3_1 v w
@[local go_sem] theorem bs3_2 (v : Value) (w : World) : (Instr.typeAssert (.iface 143 v) 119 141 true).run Tryz.prog w = .ok (.tuple #[.agg #[.string ByteArray.empty], .bool false]) w := as3_2 v w
@[local go_sem] theorem bs4_4 (v : Value) (w : World) : (Instr.typeAssert (.iface 145 v) 119 145 true).run Tryz.prog w = .ok (.tuple #[v, .bool true]) w := as4_4 v w
@[local go_sem] theorem bs4_1 (v : Value) (w : World) : (Instr.typeAssert (.iface 145 v) 119 139 true).run Tryz.prog w = .ok (.tuple #[.agg #[.string ByteArray.empty, .int .i64 0], .bool false]) w := as4_1 v w
@[local go_sem] theorem bs4_2 (v : Value) (w : World) : (Instr.typeAssert (.iface 145 v) 119 141 true).run Tryz.prog w = .ok (.tuple #[.agg #[.string ByteArray.empty], .bool false]) w := as4_2 v w
@[local go_sem] theorem bs4_3 (v : Value) (w : World) : (Instr.typeAssert (.iface 145 v) 119 143 true).run Tryz.prog w = .ok (.tuple #[.agg #[.string ByteArray.empty, .string ByteArray.empty, .slice none 0 0], .bool false]) w := as4_3 v w
@[local go_sem] theorem bs5_5 (v : Value) (w : World) : (Instr.typeAssert (.iface 147 v) 119 147 true).run Tryz.prog w = .ok (.tuple #[v, .bool true]) w := as5_5 v w
@[local go_sem] theorem bs5_1 (v : Value) (w : World) : (Instr.typeAssert (.iface 147 v) 119 139 true).run Tryz.prog w = .ok (.tuple #[.agg #[.string ByteArray.empty, .int .i64 0], .bool false]) w := as5_1 v w
@[local go_sem] theorem bs5_2 (v : Value) (w : World) : (Instr.typeAssert (.iface 147 v) 119 141 true).run Tryz.prog w = .ok (.tuple #[.agg #[.string ByteArray.empty], .bool false]) w := as5_2 v w
@[local go_sem] theorem bs5_3 (v : Value) (w : World) : (Instr.typeAssert (.iface 147 v) 119 143 true).run Tryz.prog w = .ok (.tuple #[.agg #[.string ByteArray.empty, .string ByteArray.empty, .slice none 0 0], .bool false]) w := as5_3 v w
@[local go_sem] theorem bs5_4 (v : Value) (w : World) : (Instr.typeAssert (.iface 147 v) 119 145 true).run Tryz.prog w = .ok (.tuple #[.agg #[.string ByteArray.empty, .string ByteArray.empty, .string ByteArray.empty], .bool false]) w := as5_4 v w
@[local go_sem] theorem bs6_6 (v : Value) (w : World) : (Instr.typeAssert (.iface 149 v) 119 149 true).run Tryz.prog w = .ok (.tuple #[v, .bool true]) w := as6_6 v w
@[local go_sem] theorem bs6_1 (v : Value) (w : World) : (Instr.typeAssert (.iface 149 v) 119 139 true).run Tryz.prog w = .ok (.tuple #[.agg #[.string ByteArray.empty, .int .i64 0], .bool false]) w := as6_1 v w
@[local go_sem] theorem bs6_2 (v : Value) (w : World) : (Instr.typeAssert (.iface 149 v) 119 141 true).run Tryz.prog w = .ok (.tuple #[.agg #[.string ByteArray.empty], .bool false]) w := as6_2 v w
@[local go_sem] theorem bs6_3 (v : Value) (w : World) : (Instr.typeAssert (.iface 149 v) 119 143 true).run Tryz.prog w = .ok (.tuple #[.agg #[.string ByteArray.empty, .string ByteArray.empty, .slice none 0 0], .bool false]) w := as6_3 v w
@[local go_sem] theorem bs6_4 (v : Value) (w : World) : (Instr.typeAssert (.iface 149 v) 119 145 true).run Tryz.prog w = .ok (.tuple #[.agg #[.string ByteArray.empty, .string ByteArray.empty, .string ByteArray.empty], .bool false]) w := as6_4 v w
@[local go_sem] theorem bs6_5 (v : Value) (w : World) : (Instr.typeAssert (.iface 149 v) 119 147 true).run Tryz.prog w = .ok (.tuple #[.agg #[.string ByteArray.empty, .string ByteArray.empty, .string ByteArray.empty, .int .i64 0, .int .i64 0, .string ByteArray.empty], .bool false]) w := as6_5 v w
@[local go_sem] theorem bs7_7 (v : Value) (w : World) : (Instr.typeAssert (.iface 151 v) 119 151 true).run Tryz.prog w = .ok (.tuple #[v, .bool true]) w := as7_7 v w
@[local go_sem] theorem bs7_1 (v : Value) (w : World) : (Instr.typeAssert (.iface 151 v) 119 139 true).run Tryz.prog w = .ok (.tuple #[.agg #[.string ByteArray.empty, .int .i64 0], .bool false]) w := as7_1 v w
@[local go_sem] theorem bs7_2 (v : Value) (w : World) : (Instr.typeAssert (.iface 151 v) 119 141 true).run Tryz.prog w = .ok (.tuple #[.agg #[.string ByteArray.empty], .bool false]) w := as7_2 v w
@[local go_sem] theorem bs7_3 (v : Value) (w : World) : (Instr.typeAssert (.iface 151 v) 119 143 true).run Tryz.prog w = .ok (.tuple #[.agg #[.string ByteArray.empty, .string ByteArray.empty, .slice none 0 0], .bool false]) w := as7_3 v w
@[local go_sem] theorem bs7_4 (v : Value) (w : World) : (Instr.typeAssert (.iface 151 v) 119 145 true).run Tryz.prog w = .ok (.tuple #[.agg #[.string ByteArray.empty, .string ByteArray.empty, .string ByteArray.empty], .bool false]) w := as7_4 v w
@[local go_sem] theorem bs7_5 (v : Value) (w : World) : (Instr.typeAssert (.iface 151 v) 119 147 true).run Tryz.prog w = .ok (.tuple #[.agg #[.string ByteArray.empty, .string ByteArray.empty, .string ByteArray.empty, .int .i64 0, .int .i64 0, .string ByteArray.empty], .bool false]) w := as7_5 v w
@[local go_sem] theorem bs7_6 (v : Value) (w : World) : (Instr.typeAssert (.iface 151 v) 119 149 true).run Tryz.prog w = .ok (.tuple #[.agg #[.string ByteArray.empty, .string ByteArray.empty, .string ByteArray.empty, .int .i64 0, .string ByteArray.empty], .bool false]) w := as7_6 v w
@[local go_sem] theorem bs8_8 (v : Value) (w : World) : (Instr.typeAssert (.iface 153 v) 119 153 true).run Tryz.prog w = .ok (.tuple #[v, .bool true]) w := as8_8 v w
@[local go_sem] theorem bs8_1 (v : Value) (w : World) : (Instr.typeAssert (.iface 153 v) 119 139 true).run Tryz.prog w = .ok (.tuple #[.agg #[.string ByteArray.empty, .int .i64 0], .bool false]) w := as8_1 v w
@[local go_sem] theorem bs8_2 (v : Value) (w : World) : (Instr.typeAssert (.iface 153 v) 119 141 true).run Tryz.prog w = .ok (.tuple #[.agg #[.string ByteArray.empty], .bool false]) w := as8_2 v w
@[local go_sem] theorem bs8_3 (v : Value) (w : World) : (Instr.typeAssert (.iface 153 v) 119 143 true).run Tryz.prog w = .ok (.tuple #[.agg #[.string ByteArray.empty, .string ByteArray.empty, .slice none 0 0], .bool false]) w := as8_3 v w
@[local go_sem] theorem bs8_4 (v : Value) (w : World) : (Instr.typeAssert (.iface 153 v) 119 145 true).run Tryz.prog w = .ok (.tuple #[.agg #[.string ByteArray.empty, .string ByteArray.empty, .string ByteArray.empty], .bool false]) w := as8_4 v w
@[local go_sem] theorem bs8_5 (v : Value) (w : World) : (Instr.typeAssert (.iface 153 v) 119 147 true).run Tryz.prog w = .ok (.tuple #[.agg #[.string ByteArray.empty, .string ByteArray.empty, .string ByteArray.empty, .int .i64 0, .int .i64 0, .string ByteArray.empty], .bool false]) w := as8_5 v w
@[local go_sem] theorem bs8_6 (v : Value) (w : World) : (Instr.typeAssert (.iface 153 v) 119 149 true).run Tryz.prog w = .ok (.tuple #[.agg #[.string ByteArray.empty, .string ByteArray.empty, .string ByteArray.empty, .int .i64 0, .string ByteArray.empty], .bool false]) w := as8_6 v w
@[local go_sem] theorem bs8_7 (v : Value) (w : World) : (Instr.typeAssert (.iface 153 v) 119 151 true).run Tryz.prog w = .ok (.tuple #[.agg #[.string ByteArray.empty, .string ByteArray.empty, .string ByteArray.empty, .int .i64 0], .bool false]) w := as8_7 v w
set_option maxRecDepth 100000 in
set_option maxHeartbeats 4000000 in
theorem join1 (day : Int) (key account other ref ref2 : ByteArray) (typ due amount : Int) (memo : ByteArray) (A : Option Addr) (n c : Nat) (w : World) : Calls Tryz.prog 55 #[.int .i64 day, .iface 139 (.agg #[.string account, .int .i64 typ])] w fun e w' => e = .returned (.agg #[.int .i64 1, .int .i64 day, .string ⟨#[]⟩, .string account, .string ⟨#[]⟩, .string ⟨#[]⟩, .string ⟨#[]⟩, .int .i64 typ, .int .i64 0, .int .i64 0, .string ⟨#[]⟩, .slice none 0 0]) ∧ Below w.heap.size w w' := by
  have hk := fun W => kind1 day key account other ref ref2 typ due amount memo A n c W
  go_enter Tryz.func55, Tryz.ntmps55
  go_wp2_with (go_at_call 179; refine (hk _).mono ?_; rintro e w' ⟨rfl, rfl⟩; clear hk)
  go_region
  go_wp2
  refine bodyPost_ret (v := .agg #[.int .i64 1, .int .i64 day, .string ⟨#[]⟩, .string account, .string ⟨#[]⟩, .string ⟨#[]⟩, .string ⟨#[]⟩, .int .i64 typ, .int .i64 0, .int .i64 0, .string ⟨#[]⟩, .slice none 0 0]) (by simp [results, Tryz.results55, go_sem]) rfl ⟨rfl, ?_⟩
  exact bel4d _ _ _ _ _
set_option maxRecDepth 100000 in
set_option maxHeartbeats 4000000 in
theorem join2 (day : Int) (key account other ref ref2 : ByteArray) (typ due amount : Int) (memo : ByteArray) (A : Option Addr) (n c : Nat) (w : World) : Calls Tryz.prog 55 #[.int .i64 day, .iface 141 (.agg #[.string account])] w fun e w' => e = .returned (.agg #[.int .i64 2, .int .i64 day, .string ⟨#[]⟩, .string account, .string ⟨#[]⟩, .string ⟨#[]⟩, .string ⟨#[]⟩, .int .i64 0, .int .i64 0, .int .i64 0, .string ⟨#[]⟩, .slice none 0 0]) ∧ Below w.heap.size w w' := by
  have hk := fun W => kind2 day key account other ref ref2 typ due amount memo A n c W
  go_enter Tryz.func55, Tryz.ntmps55
  go_wp2_with (go_at_call 180; refine (hk _).mono ?_; rintro e w' ⟨rfl, rfl⟩; clear hk)
  refine bodyPost_ret (v := .agg #[.int .i64 2, .int .i64 day, .string ⟨#[]⟩, .string account, .string ⟨#[]⟩, .string ⟨#[]⟩, .string ⟨#[]⟩, .int .i64 0, .int .i64 0, .int .i64 0, .string ⟨#[]⟩, .slice none 0 0]) (by simp [results, Tryz.results55, go_sem]) rfl ⟨rfl, ?_⟩
  exact bel4 _ _ _ _ _
set_option maxRecDepth 100000 in
set_option maxHeartbeats 4000000 in
theorem join3 (day : Int) (key account other ref ref2 : ByteArray) (typ due amount : Int) (memo : ByteArray) (A : Option Addr) (n c : Nat) (w : World) : Calls Tryz.prog 55 #[.int .i64 day, .iface 143 (.agg #[.string key, .string memo, .slice A n c])] w fun e w' => e = .returned (.agg #[.int .i64 3, .int .i64 day, .string key, .string ⟨#[]⟩, .string ⟨#[]⟩, .string ⟨#[]⟩, .string ⟨#[]⟩, .int .i64 0, .int .i64 0, .int .i64 0, .string memo, .slice A n c]) ∧ Below w.heap.size w w' := by
  have hk := fun W => kind3 day key account other ref ref2 typ due amount memo A n c W
  go_enter Tryz.func55, Tryz.ntmps55
  go_wp2_with (go_at_call 181; refine (hk _).mono ?_; rintro e w' ⟨rfl, rfl⟩; clear hk)
  go_region
  go_wp2
  refine bodyPost_ret (v := .agg #[.int .i64 3, .int .i64 day, .string key, .string ⟨#[]⟩, .string ⟨#[]⟩, .string ⟨#[]⟩, .string ⟨#[]⟩, .int .i64 0, .int .i64 0, .int .i64 0, .string memo, .slice A n c]) (by simp [results, Tryz.results55, go_sem]) rfl ⟨rfl, ?_⟩
  exact bel4d _ _ _ _ _
set_option maxRecDepth 100000 in
set_option maxHeartbeats 4000000 in
theorem join4 (day : Int) (key account other ref ref2 : ByteArray) (typ due amount : Int) (memo : ByteArray) (A : Option Addr) (n c : Nat) (w : World) : Calls Tryz.prog 55 #[.int .i64 day, .iface 145 (.agg #[.string key, .string ref, .string memo])] w fun e w' => e = .returned (.agg #[.int .i64 4, .int .i64 day, .string key, .string ⟨#[]⟩, .string ⟨#[]⟩, .string ref, .string ⟨#[]⟩, .int .i64 0, .int .i64 0, .int .i64 0, .string memo, .slice none 0 0]) ∧ Below w.heap.size w w' := by
  have hk := fun W => kind4 day key account other ref ref2 typ due amount memo A n c W
  go_enter Tryz.func55, Tryz.ntmps55
  go_wp2_with (go_at_call 182; refine (hk _).mono ?_; rintro e w' ⟨rfl, rfl⟩; clear hk)
  go_region
  go_wp2
  refine bodyPost_ret (v := .agg #[.int .i64 4, .int .i64 day, .string key, .string ⟨#[]⟩, .string ⟨#[]⟩, .string ref, .string ⟨#[]⟩, .int .i64 0, .int .i64 0, .int .i64 0, .string memo, .slice none 0 0]) (by simp [results, Tryz.results55, go_sem]) rfl ⟨rfl, ?_⟩
  exact bel4d _ _ _ _ _
set_option maxRecDepth 100000 in
set_option maxHeartbeats 4000000 in
theorem join5 (day : Int) (key account other ref ref2 : ByteArray) (typ due amount : Int) (memo : ByteArray) (A : Option Addr) (n c : Nat) (w : World) : Calls Tryz.prog 55 #[.int .i64 day, .iface 147 (.agg #[.string key, .string account, .string other, .int .i64 due, .int .i64 amount, .string memo])] w fun e w' => e = .returned (.agg #[.int .i64 5, .int .i64 day, .string key, .string account, .string other, .string ⟨#[]⟩, .string ⟨#[]⟩, .int .i64 0, .int .i64 due, .int .i64 amount, .string memo, .slice none 0 0]) ∧ Below w.heap.size w w' := by
  have hk := fun W => kind5 day key account other ref ref2 typ due amount memo A n c W
  go_enter Tryz.func55, Tryz.ntmps55
  go_wp2_with (go_at_call 183; refine (hk _).mono ?_; rintro e w' ⟨rfl, rfl⟩; clear hk)
  go_region
  go_wp2
  refine bodyPost_ret (v := .agg #[.int .i64 5, .int .i64 day, .string key, .string account, .string other, .string ⟨#[]⟩, .string ⟨#[]⟩, .int .i64 0, .int .i64 due, .int .i64 amount, .string memo, .slice none 0 0]) (by simp [results, Tryz.results55, go_sem]) rfl ⟨rfl, ?_⟩
  exact bel4d _ _ _ _ _
set_option maxRecDepth 100000 in
set_option maxHeartbeats 4000000 in
theorem join6 (day : Int) (key account other ref ref2 : ByteArray) (typ due amount : Int) (memo : ByteArray) (A : Option Addr) (n c : Nat) (w : World) : Calls Tryz.prog 55 #[.int .i64 day, .iface 149 (.agg #[.string key, .string account, .string other, .int .i64 amount, .string memo])] w fun e w' => e = .returned (.agg #[.int .i64 6, .int .i64 day, .string key, .string account, .string other, .string ⟨#[]⟩, .string ⟨#[]⟩, .int .i64 0, .int .i64 0, .int .i64 amount, .string memo, .slice none 0 0]) ∧ Below w.heap.size w w' := by
  have hk := fun W => kind6 day key account other ref ref2 typ due amount memo A n c W
  go_enter Tryz.func55, Tryz.ntmps55
  go_wp2_with (go_at_call 184; refine (hk _).mono ?_; rintro e w' ⟨rfl, rfl⟩; clear hk)
  go_region
  go_wp2
  refine bodyPost_ret (v := .agg #[.int .i64 6, .int .i64 day, .string key, .string account, .string other, .string ⟨#[]⟩, .string ⟨#[]⟩, .int .i64 0, .int .i64 0, .int .i64 amount, .string memo, .slice none 0 0]) (by simp [results, Tryz.results55, go_sem]) rfl ⟨rfl, ?_⟩
  exact bel4d _ _ _ _ _
set_option maxRecDepth 100000 in
set_option maxHeartbeats 4000000 in
theorem join7 (day : Int) (key account other ref ref2 : ByteArray) (typ due amount : Int) (memo : ByteArray) (A : Option Addr) (n c : Nat) (w : World) : Calls Tryz.prog 55 #[.int .i64 day, .iface 151 (.agg #[.string key, .string ref, .string ref2, .int .i64 amount])] w fun e w' => e = .returned (.agg #[.int .i64 7, .int .i64 day, .string key, .string ⟨#[]⟩, .string ⟨#[]⟩, .string ref, .string ref2, .int .i64 0, .int .i64 0, .int .i64 amount, .string ⟨#[]⟩, .slice none 0 0]) ∧ Below w.heap.size w w' := by
  have hk := fun W => kind7 day key account other ref ref2 typ due amount memo A n c W
  go_enter Tryz.func55, Tryz.ntmps55
  go_wp2_with (go_at_call 185; refine (hk _).mono ?_; rintro e w' ⟨rfl, rfl⟩; clear hk)
  go_region
  go_wp2
  refine bodyPost_ret (v := .agg #[.int .i64 7, .int .i64 day, .string key, .string ⟨#[]⟩, .string ⟨#[]⟩, .string ref, .string ref2, .int .i64 0, .int .i64 0, .int .i64 amount, .string ⟨#[]⟩, .slice none 0 0]) (by simp [results, Tryz.results55, go_sem]) rfl ⟨rfl, ?_⟩
  exact bel4d _ _ _ _ _
set_option maxRecDepth 100000 in
set_option maxHeartbeats 4000000 in
theorem join8 (day : Int) (key account other ref ref2 : ByteArray) (typ due amount : Int) (memo : ByteArray) (A : Option Addr) (n c : Nat) (w : World) : Calls Tryz.prog 55 #[.int .i64 day, .iface 153 (.agg #[])] w fun e w' => e = .returned (.agg #[.int .i64 8, .int .i64 day, .string ⟨#[]⟩, .string ⟨#[]⟩, .string ⟨#[]⟩, .string ⟨#[]⟩, .string ⟨#[]⟩, .int .i64 0, .int .i64 0, .int .i64 0, .string ⟨#[]⟩, .slice none 0 0]) ∧ Below w.heap.size w w' := by
  have hk := fun W => kind8 day key account other ref ref2 typ due amount memo A n c W
  go_enter Tryz.func55, Tryz.ntmps55
  go_wp2_with (go_at_call 186; refine (hk _).mono ?_; rintro e w' ⟨rfl, rfl⟩; clear hk)
  refine bodyPost_ret (v := .agg #[.int .i64 8, .int .i64 day, .string ⟨#[]⟩, .string ⟨#[]⟩, .string ⟨#[]⟩, .string ⟨#[]⟩, .string ⟨#[]⟩, .int .i64 0, .int .i64 0, .int .i64 0, .string ⟨#[]⟩, .slice none 0 0]) (by simp [results, Tryz.results55, go_sem]) rfl ⟨rfl, ?_⟩
  exact bel3 _ _ _ _

/-- Are two events alike, but for their lines? -/
def sameE (a b : EventV) (n m : Nat) : Bool := decide (n = m) && ((a.kind == b.kind) && (a.day == b.day) && (a.key.toList == b.key.toList) && (a.account.toList == b.account.toList) && (a.other.toList == b.other.toList) && (a.ref.toList == b.ref.toList) && (a.ref2.toList == b.ref2.toList) && (a.typ == b.typ) && (a.due == b.due) && (a.amount == b.amount) && (a.memo.toList == b.memo.toList))
set_option maxRecDepth 100000 in
set_option maxHeartbeats 4000000 in
theorem same_ev (a b : EventV) (A B : Option Addr) (n m c d : Nat) (w : World) :
    Calls Tryz.prog 54 #[evV a (.slice A n c), evV b (.slice B m d)] w fun e w' => e = .returned (.bool (sameE a b n m)) ∧ Below w.heap.size w w' := by
  unfold evV sameE
  by_cases hn : n = m
  · subst hn
    rw [decide_eq_true rfl]
    have hnn : ((n : Int) != (n : Int)) = false := by simp
    cases h0 : (a.kind == b.kind) with
    | false =>
      go_enter Tryz.func54, Tryz.ntmps54
      go_wp2
      go_ret
      exact ⟨rfl, bel2 _ _ _⟩
    | true =>
      cases h1 : (a.day == b.day) with
      | false =>
        go_enter Tryz.func54, Tryz.ntmps54
        go_wp2
        go_ret
        exact ⟨rfl, bel2 _ _ _⟩
      | true =>
        cases h2 : (a.key.toList == b.key.toList) with
        | false =>
          go_enter Tryz.func54, Tryz.ntmps54
          go_wp2
          go_ret
          exact ⟨rfl, bel2 _ _ _⟩
        | true =>
          cases h3 : (a.account.toList == b.account.toList) with
          | false =>
            go_enter Tryz.func54, Tryz.ntmps54
            go_wp2
            go_ret
            exact ⟨rfl, bel2 _ _ _⟩
          | true =>
            cases h4 : (a.other.toList == b.other.toList) with
            | false =>
              go_enter Tryz.func54, Tryz.ntmps54
              go_wp2
              go_ret
              exact ⟨rfl, bel2 _ _ _⟩
            | true =>
              cases h5 : (a.ref.toList == b.ref.toList) with
              | false =>
                go_enter Tryz.func54, Tryz.ntmps54
                go_wp2
                go_ret
                exact ⟨rfl, bel2 _ _ _⟩
              | true =>
                cases h6 : (a.ref2.toList == b.ref2.toList) with
                | false =>
                  go_enter Tryz.func54, Tryz.ntmps54
                  go_wp2
                  go_ret
                  exact ⟨rfl, bel2 _ _ _⟩
                | true =>
                  cases h7 : (a.typ == b.typ) with
                  | false =>
                    go_enter Tryz.func54, Tryz.ntmps54
                    go_wp2
                    go_ret
                    exact ⟨rfl, bel2 _ _ _⟩
                  | true =>
                    cases h8 : (a.due == b.due) with
                    | false =>
                      go_enter Tryz.func54, Tryz.ntmps54
                      go_wp2
                      go_ret
                      exact ⟨rfl, bel2 _ _ _⟩
                    | true =>
                      cases h9 : (a.amount == b.amount) with
                      | false =>
                        go_enter Tryz.func54, Tryz.ntmps54
                        go_wp2
                        go_ret
                        exact ⟨rfl, bel2 _ _ _⟩
                      | true =>
                        cases h10 : (a.memo.toList == b.memo.toList) with
                        | false =>
                          go_enter Tryz.func54, Tryz.ntmps54
                          go_wp2
                          go_ret
                          exact ⟨rfl, bel2 _ _ _⟩
                        | true =>
                          go_enter Tryz.func54, Tryz.ntmps54
                          go_wp2
                          go_ret
                          exact ⟨rfl, bel2 _ _ _⟩
  · rw [decide_eq_false hn]
    have hnn : ((n : Int) != (m : Int)) = true := by rw [bne_iff_ne]; omega
    clear hn
    go_enter Tryz.func54, Tryz.ntmps54
    go_wp2
    go_ret
    exact ⟨rfl, bel2 _ _ _⟩
end Go.Proofs.YtgocoofcelggcaaGreatDoor
