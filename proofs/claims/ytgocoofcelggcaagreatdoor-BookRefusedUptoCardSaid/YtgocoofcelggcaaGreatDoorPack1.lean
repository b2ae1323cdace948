/- Small words that all walks of this seat use; Plain words on names of accounts: parts, good names, what stands above a name; no program; Events in plain words: what one holds, and which can be; no program; Contracts of the functions on bytes and texts of events; Contracts of the functions on names: part, Good; the world is as it was, or has grown; Contracts of the functions on names: Good and what it calls; the world is as it was, or has grown; Words on memory: what may have changed between two worlds; maps keyed by strings as lists of pairs; Contracts of the functions on an event's texts. Printed by gen_evtext.py; An iterator that walks a structure in memory and holds loops over iterators of its own; a law for loops over such. No function of the program is named; What a chart is, in plain words, and how it lies in memory. -/
import Derived.Test.YtgocoofcelggcaaGreatDoorProg
import Derived.WalkKit
import Derived.WalkSpells
import Derived.WalkLawsBesides
import Derived.LoopTactic
import Derived.Outline
import Derived.Lib.Hide
import Derived.Lib.SplitLaws
import Derived.Lib.Index
import Derived.Test.YtgocoofcelggcaaGreatDoorShelf
import Derived.Lib.IndexBytes
import Derived.Shelf.Strings.Split
import Derived.Below
import Derived.WideMake
import Derived.Maps.OwnOps
import Derived.Tactics2
import Derived.Deep.Draws
import Derived.RangeFuncRecord
import Derived.MapKept
import Derived.RangeFuncNested
import Derived.RangeFuncBound
import Derived.RangeFuncCalls
import Derived.RangeFuncLeaves
import Derived.RangeFuncWrites
import Derived.Lib.LastIndexByte
namespace Go.Proofs.YtgocoofcelggcaaGreatDoor
open Go.RowKit
theorem ret_bool {a b : Bool} (h : a = b) : Ending.returned (.bool a) = .returned (.bool b) := by rw [h]
theorem ret_int {k : IntKind} {a b : Int} (h : a = b) : Ending.returned (.int k a) = .returned (.int k b) := by rw [h]
theorem ret_str {a b : ByteArray} (h : a = b) : Ending.returned (.string a) = .returned (.string b) := by rw [h]
theorem data_len (s : ByteArray) : s.data.toList.length = s.size := by rw [Array.length_toList]; rfl
theorem data_get (s : ByteArray) (k : Nat) (h : k < s.size) : s.data.toList[k]'(by rw [data_len]; exact h) = s[k] := rfl
end Go.Proofs.YtgocoofcelggcaaGreatDoor
namespace Go.Proofs.YtgocoofcelggcaaGreatDoor
open Go.Lib
set_option linter.unusedVariables false
set_option linter.unusedSimpArgs false

/-- The pieces of a list between the bytes c. -/
def splitC (c : UInt8) : List UInt8 → List (List UInt8)
  | [] => [[]]
  | x :: xs => if x = c then [] :: splitC c xs else match splitC c xs with
    | [] => [[x]]
    | p :: ps => (x :: p) :: ps

theorem splitC_ne (c : UInt8) (l : List UInt8) : splitC c l ≠ [] := by
  cases l with
  | nil => simp [splitC]
  | cons x xs =>
    unfold splitC
    split
    · simp
    · split <;> simp

def upP (c : UInt8) : Prop := 65 ≤ c.toNat ∧ c.toNat ≤ 90
def nameP (c : UInt8) : Prop := (65 ≤ c.toNat ∧ c.toNat ≤ 90) ∨ (97 ≤ c.toNat ∧ c.toNat ≤ 122) ∨ (48 ≤ c.toNat ∧ c.toNat ≤ 57) ∨ c.toNat = 45
instance (c : UInt8) : Decidable (upP c) := by unfold upP; infer_instance
instance (c : UInt8) : Decidable (nameP c) := by unfold nameP; infer_instance

/-- Can it be a part of a name? -/
def partB (l : List UInt8) : Bool := decide (l.length ≤ 16) && (match l with | [] => false | c :: _ => decide (upP c)) && l.all fun c => decide (nameP c)

/-- A good name. -/
def goodB (l : List UInt8) : Bool := decide (l.length ≤ 102) && (decide ((splitC 58 l).length ≤ 6) && !(splitC 58 l).any fun p => !partB p)

theorem splitC_length (c : UInt8) (l : List UInt8) : (splitC c l).length = l.count c + 1 := by
  induction l with
  | nil => rfl
  | cons x xs ih =>
    unfold splitC
    by_cases h : x = c
    · rw [if_pos h, List.length_cons, ih, h, List.count_cons_self]
    · rw [if_neg h, List.count_cons_of_ne h]
      cases hp : splitC c xs with
      | nil => exact absurd hp (splitC_ne c xs)
      | cons p ps => rw [hp] at ih; simpa using ih

theorem index_one_cons (c x : UInt8) (xs : List UInt8) : index (x :: xs) [c] = if c = x then 0 else if index xs [c] = -1 then -1 else index xs [c] + 1 := by
  have e : index (x :: xs) [c] = if List.isPrefixOf [c] (x :: xs) then 0 else if index xs [c] == -1 then -1 else index xs [c] + 1 := rfl
  rw [e]
  by_cases h : c = x
  · subst h; simp [List.isPrefixOf]
  · simp [List.isPrefixOf, h]

theorem splitK_one (c : UInt8) : ∀ s : List UInt8, splitK [c] 0 (count s [c]) s = splitC c s
  | [] => by
    have : count [] [c] = 0 := by rw [count_one]; rfl
    rw [this]; rfl
  | x :: xs => by
    have ih := splitK_one c xs
    by_cases h : x = c
    · subst h
      rw [count_cons_eq, Nat.add_comm]
      unfold splitK splitC
      rw [index_one_cons, if_pos rfl, if_pos rfl]
      simp [ih]
    · have hn : ¬ c = x := fun e => h e.symm
      rw [count_cons_ne _ _ _ h]
      unfold splitC
      rw [if_neg h, ← ih]
      cases hk : count xs [c] with
      | zero => rfl
      | succ k =>
        have hi : index xs [c] ≠ -1 := fun e => by
          have := count_miss (sub := [c]) e
          omega
        have hg := index_ge xs [c]
        unfold splitK
        rw [index_one_cons, if_neg hn, if_neg hi]
        have h1 : ¬ (index xs [c] + 1 == -1) = true := fun e => by have := beq_iff_eq.1 e; omega
        have h2 : ¬ (index xs [c] == -1) = true := fun e => by have := beq_iff_eq.1 e; omega
        rw [if_neg h1, if_neg h2]
        have e1 : (index xs [c] + 1).toNat = (index xs [c]).toNat + 1 := by omega
        rw [e1]
        simp

theorem splitB_one (c : UInt8) (s : ByteArray) : (splitB ⟨#[c]⟩ 0 (countB s ⟨#[c]⟩) s).map (·.data.toList) = splitC c s.data.toList := by
  rw [splitB_data]
  exact splitK_one c s.data.toList

theorem partB_iff (l : List UInt8) : partB l = true ↔ (l.length ≤ 16 ∧ (∃ c r, l = c :: r ∧ upP c) ∧ ∀ c ∈ l, nameP c) := by
  unfold partB
  cases l with
  | nil => simp
  | cons c r => simp [and_assoc]
end Go.Proofs.YtgocoofcelggcaaGreatDoor
namespace Go.Proofs.YtgocoofcelggcaaGreatDoor
set_option linter.unusedVariables false
set_option linter.unusedSimpArgs false

structure LineV where
  account : ByteArray
  amount : Int
  tag : ByteArray

structure EventV where
  kind : Int
  day : Int
  key : ByteArray
  account : ByteArray
  other : ByteArray
  ref : ByteArray
  ref2 : ByteArray
  typ : Int
  due : Int
  amount : Int
  memo : ByteArray
  lines : List LineV

def emptyB : ByteArray := ⟨#[]⟩
def nilB (s : ByteArray) : Bool := s.data.toList.isEmpty
def dayB (n : Int) : Bool := decide (1 ≤ n ∧ n ≤ 3652059)
def isUp (c : UInt8) : Bool := decide (65 ≤ c.toNat ∧ c.toNat ≤ 90)
def isLow (c : UInt8) : Bool := decide (97 ≤ c.toNat ∧ c.toNat ≤ 122)
def isDig (c : UInt8) : Bool := decide (48 ≤ c.toNat ∧ c.toNat ≤ 57)
def nameC (c : UInt8) : Bool := isUp c || isLow c || isDig c || decide (c.toNat = 45)
def keyC (c : UInt8) : Bool := isUp c || isLow c || isDig c || decide (c.toNat = 45) || decide (c.toNat = 95) || decide (c.toNat = 46)
def tagC (c : UInt8) : Bool := isLow c || isDig c || decide (c.toNat = 45)
def memoC (c : UInt8) : Bool := decide (32 ≤ c.toNat ∧ c.toNat ≤ 126) && !decide (c.toNat = 34)

def keyB (s : ByteArray) : Bool := !nilB s && decide (s.size ≤ 24) && s.data.toList.all keyC
def tagB (s : ByteArray) : Bool := match s.data.toList with | [] => true | c :: r => decide (s.size ≤ 16) && isLow c && (c :: r).all tagC
def memoB (s : ByteArray) : Bool := decide (s.size ≤ 80) && s.data.toList.all memoC
def rootB (s : ByteArray) : Bool := !decide (0 ≤ Lib.indexByte s.data.toList 58)
def lineB (x : LineV) : Bool := goodB x.account.data.toList && decide (x.amount ≠ 0) && decide (x.amount ≠ -9223372036854775808) && tagB x.tag
def fitB (l : List LineV) : Bool := l.all lineB && decide (2 ≤ l.length ∧ l.length ≤ 12)

/-- Has it the fields alone that its kind has? -/
def bareB (e : EventV) (key account other ref ref2 typ due amount memo lines : Bool) : Bool :=
  (key || nilB e.key) && (account || nilB e.account) && (other || nilB e.other) && (ref || nilB e.ref) && (ref2 || nilB e.ref2) && (typ || e.typ == 0) && (due || e.due == 0) && (amount || e.amount == 0) && (memo || nilB e.memo) && (lines || e.lines.length == 0)

/-- Can its kind's fields be so? -/
def fieldsB (e : EventV) : Bool :=
  if e.kind = 1 then goodB e.account.data.toList && (rootB e.account && decide (1 ≤ e.typ) && decide (e.typ ≤ 5) || !rootB e.account && e.typ == 0)
  else if e.kind = 2 then goodB e.account.data.toList
  else if e.kind = 3 then keyB e.key && memoB e.memo && fitB e.lines
  else if e.kind = 4 then keyB e.key && keyB e.ref && memoB e.memo
  else if e.kind = 5 then keyB e.key && goodB e.account.data.toList && goodB e.other.data.toList && decide (e.account ≠ e.other) && dayB e.due && decide (e.day ≤ e.due) && decide (0 < e.amount) && memoB e.memo
  else if e.kind = 6 then keyB e.key && goodB e.account.data.toList && goodB e.other.data.toList && decide (e.account ≠ e.other) && decide (0 < e.amount) && memoB e.memo
  else if e.kind = 7 then keyB e.key && keyB e.ref && keyB e.ref2 && decide (0 < e.amount)
  else decide (e.kind = 8)

def ownB (e : EventV) : Bool :=
  if e.kind = 1 then bareB e false true false false false true false false false false
  else if e.kind = 2 then bareB e false true false false false false false false false false
  else if e.kind = 3 then bareB e true false false false false false false false true true
  else if e.kind = 4 then bareB e true false false true false false false false true false
  else if e.kind = 5 then bareB e true true true false false false true true true false
  else if e.kind = 6 then bareB e true true true false false false false true true false
  else if e.kind = 7 then bareB e true false false true true false false true false false
  else bareB e false false false false false false false false false false

/-- Can there be such an event? -/
def evB (e : EventV) : Bool := dayB e.day && fieldsB e && ownB e

theorem nilB_iff {s : ByteArray} : nilB s = true ↔ s = emptyB := by
  unfold nilB emptyB
  cases s with
  | mk a =>
    constructor
    · intro h
      have h' : a.toList = [] := List.isEmpty_iff.1 h
      have : a = #[] := by cases a; simp at h'; simp [h']
      rw [this]
    · intro h
      injection h with h
      subst h
      rfl
theorem keyB_ne {s : ByteArray} (h : keyB s = true) : s ≠ emptyB := by
  intro e
  subst e
  simp [keyB, nilB, emptyB] at h
theorem keyB_size {s : ByteArray} (h : keyB s = true) : s.size ≤ 24 := by
  simp [keyB] at h
  exact h.1.2

theorem splitC_cons_ne {c x : UInt8} {xs : List UInt8} (h : x ≠ c) : ∃ p ps, splitC c xs = p :: ps ∧ splitC c (x :: xs) = (x :: p) :: ps := by
  cases hp : splitC c xs with
  | nil => exact absurd hp (splitC_ne c xs)
  | cons p ps => exact ⟨p, ps, rfl, by unfold splitC; rw [if_neg h, hp]⟩

/-- A text is as long as its pieces and the marks between them. -/
theorem splitC_sum (c : UInt8) : ∀ l : List UInt8, l.length + 1 = ((splitC c l).map fun p => p.length + 1).sum
  | [] => rfl
  | x :: xs => by
    have ih := splitC_sum c xs
    by_cases h : x = c
    · subst h
      unfold splitC
      rw [if_pos rfl, List.map_cons, List.sum_cons, List.length_cons, ih]
      simp
      omega
    · obtain ⟨p, ps, h1, h2⟩ := splitC_cons_ne (xs := xs) h
      rw [h2, List.map_cons, List.sum_cons, List.length_cons]
      rw [h1, List.map_cons, List.sum_cons] at ih
      simp only [List.length_cons]
      omega

theorem sum_le {l : List Nat} {m : Nat} (h : ∀ x ∈ l, x ≤ m) : l.sum ≤ l.length * m := by
  induction l with
  | nil => simp
  | cons x r ih =>
    rw [List.sum_cons, List.length_cons]
    have h1 := h x (by simp)
    have h2 := ih fun y hy => h y (by simp [hy])
    have : (r.length + 1) * m = r.length * m + m := Nat.succ_mul _ _
    omega

/-- A name by the event's own look at it. -/
def nameB (l : List UInt8) : Bool := (splitC 58 l).all partB && decide ((splitC 58 l).length ≤ 6)

theorem nameB_good (l : List UInt8) : nameB l = goodB l := by
  unfold nameB goodB
  have hall : (!(splitC 58 l).any fun p => !partB p) = (splitC 58 l).all partB := by
    rw [List.all_eq_not_any_not]
  rw [hall]
  by_cases h1 : (splitC 58 l).length ≤ 6
  · by_cases h2 : (splitC 58 l).all partB = true
    · have h3 : l.length ≤ 102 := by
        have hs := splitC_sum 58 l
        have hb := sum_le (l := (splitC 58 l).map fun p => p.length + 1) (m := 17) (by
          intro x hx
          obtain ⟨p, hp, rfl⟩ := List.mem_map.1 hx
          have := (partB_iff p).1 (List.all_eq_true.1 h2 p hp)
          omega)
        rw [List.length_map] at hb
        omega
      simp [h1, h2, h3]
    · have h2' : (splitC 58 l).all partB = false := by simpa using h2
      rw [h2']
      simp
  · simp [h1]
end Go.Proofs.YtgocoofcelggcaaGreatDoor
namespace Go.Proofs.YtgocoofcelggcaaGreatDoor
open Go.RowKit
set_option linter.unusedVariables false
set_option linter.unusedSimpArgs false

theorem upper_any (c : UInt8) (w : World) : Calls Tryz.prog 115 #[.int .u8 (c.toNat : Int)] w fun e w' => e = .returned (.bool (isUp c)) ∧ w = w' := by
  by_cases h1 : 65 ≤ (c.toNat : Int)
  · by_cases h2 : (c.toNat : Int) ≤ 90
    · go_enter Tryz.func115, Tryz.ntmps115
      go_wp2
      go_ret
      exact ⟨ret_bool (by unfold isUp; first | (exact decide_eq_decide.2 (by omega)) | exact (decide_eq_true (by omega)).symm | exact (decide_eq_false (by omega)).symm), rfl⟩
    · have h3 : 90 < (c.toNat : Int) := by omega
      clear h2
      go_enter Tryz.func115, Tryz.ntmps115
      go_wp2
      go_ret
      exact ⟨ret_bool (by unfold isUp; first | (exact decide_eq_decide.2 (by omega)) | exact (decide_eq_true (by omega)).symm | exact (decide_eq_false (by omega)).symm), rfl⟩
  · have h3 : (c.toNat : Int) < 65 := by omega
    clear h1
    go_enter Tryz.func115, Tryz.ntmps115
    go_wp2
    go_ret
    exact ⟨ret_bool (by unfold isUp; first | (exact decide_eq_decide.2 (by omega)) | exact (decide_eq_true (by omega)).symm | exact (decide_eq_false (by omega)).symm), rfl⟩
theorem lower_any (c : UInt8) (w : World) : Calls Tryz.prog 118 #[.int .u8 (c.toNat : Int)] w fun e w' => e = .returned (.bool (isLow c)) ∧ w = w' := by
  by_cases h1 : 97 ≤ (c.toNat : Int)
  · by_cases h2 : (c.toNat : Int) ≤ 122
    · go_enter Tryz.func118, Tryz.ntmps118
      go_wp2
      go_ret
      exact ⟨ret_bool (by unfold isLow; first | (exact decide_eq_decide.2 (by omega)) | exact (decide_eq_true (by omega)).symm | exact (decide_eq_false (by omega)).symm), rfl⟩
    · have h3 : 122 < (c.toNat : Int) := by omega
      clear h2
      go_enter Tryz.func118, Tryz.ntmps118
      go_wp2
      go_ret
      exact ⟨ret_bool (by unfold isLow; first | (exact decide_eq_decide.2 (by omega)) | exact (decide_eq_true (by omega)).symm | exact (decide_eq_false (by omega)).symm), rfl⟩
  · have h3 : (c.toNat : Int) < 97 := by omega
    clear h1
    go_enter Tryz.func118, Tryz.ntmps118
    go_wp2
    go_ret
    exact ⟨ret_bool (by unfold isLow; first | (exact decide_eq_decide.2 (by omega)) | exact (decide_eq_true (by omega)).symm | exact (decide_eq_false (by omega)).symm), rfl⟩
theorem digit_any (c : UInt8) (w : World) : Calls Tryz.prog 119 #[.int .u8 (c.toNat : Int)] w fun e w' => e = .returned (.bool (isDig c)) ∧ w = w' := by
  by_cases h1 : 48 ≤ (c.toNat : Int)
  · by_cases h2 : (c.toNat : Int) ≤ 57
    · go_enter Tryz.func119, Tryz.ntmps119
      go_wp2
      go_ret
      exact ⟨ret_bool (by unfold isDig; first | (exact decide_eq_decide.2 (by omega)) | exact (decide_eq_true (by omega)).symm | exact (decide_eq_false (by omega)).symm), rfl⟩
    · have h3 : 57 < (c.toNat : Int) := by omega
      clear h2
      go_enter Tryz.func119, Tryz.ntmps119
      go_wp2
      go_ret
      exact ⟨ret_bool (by unfold isDig; first | (exact decide_eq_decide.2 (by omega)) | exact (decide_eq_true (by omega)).symm | exact (decide_eq_false (by omega)).symm), rfl⟩
  · have h3 : (c.toNat : Int) < 48 := by omega
    clear h1
    go_enter Tryz.func119, Tryz.ntmps119
    go_wp2
    go_ret
    exact ⟨ret_bool (by unfold isDig; first | (exact decide_eq_decide.2 (by omega)) | exact (decide_eq_true (by omega)).symm | exact (decide_eq_false (by omega)).symm), rfl⟩

theorem nat_beq (c : UInt8) (n : Nat) : ((c.toNat : Int) == (n : Int)) = decide (c.toNat = n) := by
  by_cases h : c.toNat = n
  · simp [h]
  · have : ¬ (c.toNat : Int) = (n : Int) := by omega
    rw [beq_eq_false_iff_ne.2 this]; simp [h]

theorem nameC_any (c : UInt8) (w : World) : Calls Tryz.prog 117 #[.int .u8 (c.toNat : Int)] w fun e w' => e = .returned (.bool (nameC c)) ∧ w = w' := by
  have hu := fun w => upper_any c w
  have hl := fun w => lower_any c w
  have hd := fun w => digit_any c w
  have h45 : ((c.toNat : Int) == 45) = decide (c.toNat = 45) := nat_beq c 45
  unfold nameC
  generalize isUp c = u at *
  generalize isLow c = l at *
  generalize isDig c = d at *
  generalize decide (c.toNat = 45) = b at *
  cases u <;> cases l <;> cases d <;> cases b
  all_goals
    go_enter Tryz.func117, Tryz.ntmps117
    go_wp2_with (first
      | (go_at_call 115; refine (hu _).mono ?_; rintro e w' ⟨rfl, rfl⟩)
      | (go_at_call 118; refine (hl _).mono ?_; rintro e w' ⟨rfl, rfl⟩)
      | (go_at_call 119; refine (hd _).mono ?_; rintro e w' ⟨rfl, rfl⟩))
    go_ret
    exact ⟨rfl, rfl⟩
theorem keyC_any (c : UInt8) (w : World) : Calls Tryz.prog 120 #[.int .u8 (c.toNat : Int)] w fun e w' => e = .returned (.bool (keyC c)) ∧ w = w' := by
  have hu := fun w => upper_any c w
  have hl := fun w => lower_any c w
  have hd := fun w => digit_any c w
  have h45 : ((c.toNat : Int) == 45) = decide (c.toNat = 45) := nat_beq c 45
  have h95 : ((c.toNat : Int) == 95) = decide (c.toNat = 95) := nat_beq c 95
  have h46 : ((c.toNat : Int) == 46) = decide (c.toNat = 46) := nat_beq c 46
  unfold keyC
  generalize isUp c = u at *
  generalize isLow c = l at *
  generalize isDig c = d at *
  generalize decide (c.toNat = 45) = b at *
  generalize decide (c.toNat = 95) = b1 at *
  generalize decide (c.toNat = 46) = b2 at *
  cases u
  · cases l
    · cases d <;> cases b <;> cases b1 <;> cases b2
      all_goals
        go_enter Tryz.func120, Tryz.ntmps120
        go_wp2_with (first
          | (go_at_call 115; refine (hu _).mono ?_; rintro e w' ⟨rfl, rfl⟩)
          | (go_at_call 118; refine (hl _).mono ?_; rintro e w' ⟨rfl, rfl⟩)
          | (go_at_call 119; refine (hd _).mono ?_; rintro e w' ⟨rfl, rfl⟩))
        go_ret
        exact ⟨rfl, rfl⟩
    · clear h45 h95 h46
      go_enter Tryz.func120, Tryz.ntmps120
      go_wp2_with (first
        | (go_at_call 115; refine (hu _).mono ?_; rintro e w' ⟨rfl, rfl⟩)
        | (go_at_call 118; refine (hl _).mono ?_; rintro e w' ⟨rfl, rfl⟩))
      go_ret
      exact ⟨by simp, rfl⟩
  · clear h45 h95 h46
    go_enter Tryz.func120, Tryz.ntmps120
    go_wp2_with (go_at_call 115; refine (hu _).mono ?_; rintro e w' ⟨rfl, rfl⟩)
    go_ret
    exact ⟨by simp, rfl⟩
theorem tagC_any (c : UInt8) (w : World) : Calls Tryz.prog 138 #[.int .u8 (c.toNat : Int)] w fun e w' => e = .returned (.bool (tagC c)) ∧ w = w' := by
  have hl := fun w => lower_any c w
  have hd := fun w => digit_any c w
  have h45 : ((c.toNat : Int) == 45) = decide (c.toNat = 45) := nat_beq c 45
  unfold tagC
  generalize isLow c = l at *
  generalize isDig c = d at *
  generalize decide (c.toNat = 45) = b at *
  cases l <;> cases d <;> cases b
  all_goals
    go_enter Tryz.func138, Tryz.ntmps138
    go_wp2_with (first
      | (go_at_call 118; refine (hl _).mono ?_; rintro e w' ⟨rfl, rfl⟩)
      | (go_at_call 119; refine (hd _).mono ?_; rintro e w' ⟨rfl, rfl⟩))
    go_ret
    exact ⟨rfl, rfl⟩
theorem memoC_any (c : UInt8) (w : World) : Calls Tryz.prog 121 #[.int .u8 (c.toNat : Int)] w fun e w' => e = .returned (.bool (memoC c)) ∧ w = w' := by
  by_cases h1 : 32 ≤ (c.toNat : Int)
  · by_cases h2 : (c.toNat : Int) ≤ 126
    · by_cases h3 : (c.toNat : Int) = 34
      · have h4 : ((c.toNat : Int) != 34) = false := by rw [h3]; rfl
        have hc : memoC c = false := by unfold memoC; simp; omega
        rw [hc]
        clear h3 hc
        go_enter Tryz.func121, Tryz.ntmps121
        go_wp2
        go_ret
        exact ⟨rfl, rfl⟩
      · have h4 : ((c.toNat : Int) != 34) = true := by simpa using h3
        have hc : memoC c = true := by unfold memoC; simp; omega
        rw [hc]
        clear h3 hc
        go_enter Tryz.func121, Tryz.ntmps121
        go_wp2
        go_ret
        exact ⟨rfl, rfl⟩
    · have h3 : 126 < (c.toNat : Int) := by omega
      have hc : memoC c = false := by unfold memoC; simp; omega
      rw [hc]
      clear h2 hc
      go_enter Tryz.func121, Tryz.ntmps121
      go_wp2
      go_ret
      exact ⟨rfl, rfl⟩
  · have h3 : (c.toNat : Int) < 32 := by omega
    have hc : memoC c = false := by unfold memoC; simp; omega
    rw [hc]
    clear h1 hc
    go_enter Tryz.func121, Tryz.ntmps121
    go_wp2
    go_ret
    exact ⟨rfl, rfl⟩
end Go.Proofs.YtgocoofcelggcaaGreatDoor
namespace Go.Proofs.YtgocoofcelggcaaGreatDoor
open Go.RowKit
set_option linter.unusedVariables false
set_option linter.unusedSimpArgs false

theorem part_false (s : ByteArray) (h : ¬ (1 ≤ s.size ∧ s.size ≤ 16)) : partB s.data.toList = false := by
  rw [Bool.eq_false_iff]
  intro e
  obtain ⟨h1, ⟨c, r, h2, _⟩, _⟩ := (partB_iff _).1 e
  rw [data_len] at h1
  have := congrArg List.length h2
  rw [data_len] at this
  simp at this
  omega
theorem part_false_up (s : ByteArray) (h1 : 1 ≤ s.size) (h : ¬ upP s[0]) : partB s.data.toList = false := by
  rw [Bool.eq_false_iff]
  intro e
  obtain ⟨_, ⟨c, r, h2, h3⟩, _⟩ := (partB_iff _).1 e
  have e0 := data_get s 0 h1
  simp only [h2, List.getElem_cons_zero] at e0
  subst e0
  exact h h3
theorem part_false_name (s : ByteArray) (k : Nat) (hk : k < s.size) (h : ¬ nameP s[k]) : partB s.data.toList = false := by
  rw [Bool.eq_false_iff]
  intro e
  obtain ⟨_, _, h3⟩ := (partB_iff _).1 e
  apply h
  rw [← data_get s k hk]
  exact h3 _ (List.getElem_mem _)
theorem part_true (s : ByteArray) (h1 : 1 ≤ s.size) (h2 : s.size ≤ 16) (hu : upP s[0]) (h : ∀ k (hk : k < s.size), nameP s[k]) : partB s.data.toList = true := by
  rw [partB_iff, data_len]
  refine ⟨h2, ?_, ?_⟩
  · have hl : 0 < s.data.toList.length := by rw [data_len]; exact h1
    refine ⟨s.data.toList[0], s.data.toList.drop 1, ?_, hu⟩
    rw [List.getElem_cons_drop]; rfl
  · intro c hc
    obtain ⟨k, hk, rfl⟩ := List.getElem_of_mem hc
    exact h k (by rw [data_len] at hk; exact hk)

structure PartInv (s : ByteArray) (i : Value) (k : Nat) : Prop where
  le : k ≤ s.size
  at_ : i = .int .i64 (k : Int)
  all : ∀ j (hj : j < s.size), j < k → nameP s[j]

set_option maxHeartbeats 2000000 in
theorem part_any (s : ByteArray) (w : World) (hm : s.size ≤ maxLen) :
    Calls Tryz.prog 141 #[.string s] w fun e w' => e = .returned (.bool (partB s.data.toList)) ∧ w = w' := by
  unfold maxLen at hm
  by_cases hs : 1 ≤ s.size ∧ s.size ≤ 16
  · obtain ⟨h1, h2⟩ := hs
    have h' : ¬ ((s.size : Int) < 1) := by omega
    have h'' : ¬ ((16 : Int) < s.size) := by omega
    by_cases hu : upP s[0]
    · have HU := Lib.hid hu
      unfold upP at hu
      have ha : 65 ≤ ((s[0]).toNat : Int) := by omega
      have hb : ((s[0]).toNat : Int) ≤ 90 := by omega
      clear hu
      obtain ⟨R, hR⟩ : ∃ R : Bool, R = partB s.data.toList := ⟨_, rfl⟩
      rw [← hR]
      have HR := Lib.hid hR
      clear hR
      go_enter Tryz.func141, Tryz.ntmps141
      go_wp2
      go_loop [25] (fun i => ∃ k : Nat, PartInv s i k) (fun i => s.size - (intOf i).toNat)
      case atStart => exact ⟨0, Nat.zero_le _, rfl, fun _ _ h => absurd h (by omega)⟩
      case round =>
        obtain ⟨k, hk, rfl, hall⟩ := hrel
        have HA := Lib.hid hall
        clear hall
        by_cases hlt : k < s.size
        · have hc : (65 ≤ (s[k].toNat : Int) ∧ (s[k].toNat : Int) ≤ 90) ∨ (97 ≤ (s[k].toNat : Int) ∧ (s[k].toNat : Int) ≤ 122) ∨ (48 ≤ (s[k].toNat : Int) ∧ (s[k].toNat : Int) ≤ 57) ∨ (s[k].toNat : Int) = 45 ∨ ¬ nameP s[k] := by
            unfold nameP; omega
          have fin : nameP s[k] → PartInv s (.int .i64 ((k : Int) + 1)) (k + 1) := fun hn => ⟨by omega, by simp, fun j hj hjk => by
            by_cases e : j = k
            · subst e; exact hn
            · exact HA.out j hj (by omega)⟩
          have FIN := Lib.hid fin
          clear fin
          rcases hc with ⟨a, b⟩ | ⟨a, b⟩ | ⟨a, b⟩ | a | hno
          · have hn : Hid (nameP s[k]) := by show nameP _; unfold nameP; omega
            go_wp2
            go_round
            case rel => exact ⟨k + 1, FIN.out hn.out⟩
            case measure => simp [intOf]; omega
          · have hn : Hid (nameP s[k]) := by show nameP _; unfold nameP; omega
            go_wp2
            go_round
            case rel => exact ⟨k + 1, FIN.out hn.out⟩
            case measure => simp [intOf]; omega
          · have hn : Hid (nameP s[k]) := by show nameP _; unfold nameP; omega
            go_wp2
            go_round
            case rel => exact ⟨k + 1, FIN.out hn.out⟩
            case measure => simp [intOf]; omega
          · have hn : Hid (nameP s[k]) := by show nameP _; unfold nameP; omega
            go_wp2
            go_round
            case rel => exact ⟨k + 1, FIN.out hn.out⟩
            case measure => simp [intOf]; omega
          · have hf := part_false_name s k hlt hno
            have HF : Hid (R = false) := by show R = false; rw [HR.out, hf]
            clear hf
            have hb : ((s[k].toNat : Int) == 45) = false := by
              rw [beq_eq_false_iff_ne]
              intro e
              exact hno (by unfold nameP; omega)
            have hno' : (s[k].toNat : Int) < 48 ∨ (57 < (s[k].toNat : Int) ∧ (s[k].toNat : Int) < 65) ∨ (90 < (s[k].toNat : Int) ∧ (s[k].toNat : Int) < 97) ∨ 122 < (s[k].toNat : Int) := by
              unfold nameP at hno; omega
            clear hno
            rcases hno' with a | ⟨a, b⟩ | ⟨a, b⟩ | a
            all_goals
              go_wp2
              all_goals first | (go_ret; rw [HF.out]; exact ⟨rfl, rfl⟩) | (exfalso; simp at *; omega)
        · have ht := part_true s h1 h2 HU.out (fun j hj => HA.out j hj (by omega))
          have HT : Hid (R = true) := by show R = true; rw [HR.out, ht]
          clear ht
          go_wp2
          go_ret
          rw [HT.out]
          exact ⟨rfl, rfl⟩
    · rw [part_false_up s h1 hu]
      unfold upP at hu
      by_cases ha : ((s[0]).toNat : Int) < 65
      · clear hu
        go_enter Tryz.func141, Tryz.ntmps141
        go_wp2
        go_ret
        exact ⟨rfl, rfl⟩
      · have hb : 90 < ((s[0]).toNat : Int) := by omega
        clear hu
        go_enter Tryz.func141, Tryz.ntmps141
        go_wp2
        go_ret
        exact ⟨rfl, rfl⟩
  · rw [part_false s hs]
    by_cases h : (s.size : Int) < 1
    · go_enter Tryz.func141, Tryz.ntmps141
      go_wp2
      go_ret
      exact ⟨rfl, rfl⟩
    · have h' : ((16 : Int) < s.size) := by omega
      go_enter Tryz.func141, Tryz.ntmps141
      go_wp2
      go_ret
      exact ⟨rfl, rfl⟩
end Go.Proofs.YtgocoofcelggcaaGreatDoor
namespace Go.Proofs.YtgocoofcelggcaaGreatDoor
open Go.RowKit
set_option linter.unusedVariables false
set_option linter.unusedSimpArgs false

theorem bad_any (s : ByteArray) (w : World) (hm : s.size ≤ maxLen) :
    Calls Tryz.prog 140 #[.string s] w fun e w' => e = .returned (.bool (!partB s.data.toList)) ∧ w = w' := by
  go_enter Tryz.func140, Tryz.ntmps140
  go_wp2_with (go_at_call 141; refine (part_any _ _ hm).mono ?_; rintro e w' ⟨rfl, rfl⟩)
  go_ret
  exact ⟨rfl, rfl⟩

structure BadIdx (ps : List ByteArray) (i : Int) : Prop where
  ok : (i = -1 ∧ ∀ p ∈ ps, partB p.data.toList = true) ∨ (0 ≤ i ∧ ∃ p ∈ ps, partB p.data.toList = false)
structure IdxRes (ps : List ByteArray) (w : World) (e : Ending) (w' : World) : Prop where
  val : ∃ i : Int, e = .returned (.int .i64 i) ∧ BadIdx ps i
  same : w = w'
structure IdxInv (ps : List ByteArray) (i : Value) (k : Nat) : Prop where
  le : k ≤ ps.length
  at_ : i = .int .i64 (k : Int)
  all : ∀ j (hj : j < ps.length), j < k → partB (ps[j]).data.toList = true

set_option maxHeartbeats 1000000 in
theorem index_any (ps : List ByteArray) (b c : Nat) (w : World) (hn : ps.length ≤ maxLen) (hs : ∀ p ∈ ps, p.size ≤ maxLen)
    (hc : ∀ j (hj : j < ps.length), w.cell? ⟨b, j, none⟩ = some (.string ps[j])) :
    Calls Tryz.prog 128 #[.slice (some ⟨b, 0, none⟩) ps.length c, .func (.func 140) #[] #[]] w (IdxRes ps w) := by
  unfold maxLen at hn
  have HC := Lib.hid hc
  have HS := Lib.hid hs
  clear hc hs
  go_enter Tryz.func128, Tryz.ntmps128
  go_wp2
  go_loop [8] (fun i => ∃ k : Nat, IdxInv ps i k) (fun i => ps.length - (intOf i).toNat)
  case atStart => exact ⟨0, Nat.zero_le _, rfl, fun _ _ h => absurd h (by omega)⟩
  case round =>
    obtain ⟨k, hk, rfl, hall⟩ := hrel
    have HA := Lib.hid hall
    clear hall
    by_cases hlt : k < ps.length
    · have hcell := HC.out k hlt
      have hsz := HS.out _ (List.getElem_mem hlt)
      obtain ⟨p, hp⟩ : ∃ p, p = ps[k] := ⟨_, rfl⟩
      rw [← hp] at hcell hsz
      have HP := Lib.hid hp
      clear hp
      by_cases hb : partB p.data.toList = true
      · go_wp2_with (go_at_call 140; refine (bad_any _ _ hsz).mono ?_; rintro e w' ⟨rfl, rfl⟩)
        go_round
        case rel => exact ⟨k + 1, by omega, by go_num, fun j hj hjk => by
            by_cases e : j = k
            · subst e; rw [← HP.out]; exact hb
            · exact HA.out j hj (by omega)⟩
        case measure => simp [intOf]; omega
      · have hb' : partB p.data.toList = false := by simpa using hb
        go_wp2_with (go_at_call 140; refine (bad_any _ _ hsz).mono ?_; rintro e w' ⟨rfl, rfl⟩)
        go_ret
        exact ⟨⟨_, rfl, ⟨.inr ⟨by omega, p, by rw [HP.out]; exact List.getElem_mem hlt, hb'⟩⟩⟩, rfl⟩
    · go_wp2
      go_ret
      exact ⟨⟨_, rfl, ⟨.inl ⟨rfl, fun p hp => by
        obtain ⟨j, hj, rfl⟩ := List.getElem_of_mem hp
        exact HA.out j hj (by omega)⟩⟩⟩, rfl⟩

theorem contains_any (ps : List ByteArray) (b c : Nat) (w : World) (hn : ps.length ≤ maxLen) (hs : ∀ p ∈ ps, p.size ≤ maxLen)
    (hc : ∀ j (hj : j < ps.length), w.cell? ⟨b, j, none⟩ = some (.string ps[j])) :
    Calls Tryz.prog 89 #[.slice (some ⟨b, 0, none⟩) ps.length c, .func (.func 140) #[] #[]] w fun e w' => e = .returned (.bool (ps.any fun p => !partB p.data.toList)) ∧ w = w' := by
  obtain ⟨R, hR⟩ : ∃ R, R = (ps.any fun p => !partB p.data.toList) := ⟨_, rfl⟩
  rw [← hR]
  have HR := Lib.hid hR
  clear hR
  go_enter Tryz.func89, Tryz.ntmps89
  go_wp2_with (go_at_call 128; refine (index_any ps b c _ hn hs hc).mono ?_; rintro e w' ⟨⟨i, rfl, hi⟩, rfl⟩)
  go_ret
  rcases hi.ok with ⟨rfl, h⟩ | ⟨h0, p, hp, hb⟩
  · refine ⟨ret_bool ?_, rfl⟩
    rw [HR.out, eq_comm]
    simpa using h
  · refine ⟨ret_bool ?_, rfl⟩
    rw [HR.out, eq_comm]
    simp only [h0, decide_true, ge_iff_le, List.any_eq_true]
    exact ⟨p, hp, by simp [hb]⟩

section
open Go.Shelf Go.Lib
variable {P : Program} {ρ : Ren}
set_option maxHeartbeats 1000000 in
/-- strings.Split at a sep of one byte: no variable of the library's is read. -/
theorem split_one (L : Lays.n146 P ρ) (hi9 : (P.info? (ρ.t 9)).map (fun i => (i.zero, i.size, i.bytes)) = some (some (.string ByteArray.empty), 1, 16)) (s : ByteArray) (c : UInt8) (w : World) (hs : s.size < 4294967281) :
    Calls P (ρ.f 146) #[.string s, .string ⟨#[c]⟩] w fun e w' =>
      e = .returned (.slice (some ⟨w.heap.size, 0, none⟩) (countB s ⟨#[c]⟩ + 1) (countB s ⟨#[c]⟩ + 1)) ∧ w' = w.alloc (.cells ((splitB ⟨#[c]⟩ 0 (countB s ⟨#[c]⟩) s).map Value.string).toArray (ρ.t 9)) := by
  obtain ⟨sep, hsep⟩ : ∃ sep : ByteArray, sep = ⟨#[c]⟩ := ⟨_, rfl⟩
  have h1 : 1 ≤ sep.size := by rw [hsep]; exact Nat.le_refl 1
  have hle := countB_le sep h1 s.size s (Nat.le_refl _)
  have hlen := splitB_all sep h1 0 _ s rfl
  have hI : ∀ (x : ByteArray) (cc : Array Value), x.size ≤ s.size → Calls P (ρ.f 143) #[.string x, .string sep] (w.alloc (.cells cc (ρ.t 9))) fun e w' => e = .returned (.int .i64 (indexB x sep)) ∧ w' = w.alloc (.cells cc (ρ.t 9)) := fun x cc _ => by
    subst hsep
    refine (Any.strings_Index_one { L with } x c _).mono fun e w' ⟨he, hw⟩ => ⟨?_, hw⟩
    rw [he]
    exact ret_int (index_one _ _).symm
  have hC : Calls P (ρ.f 138) #[.string s, .string sep] w fun e w' => e = .returned (.int .i64 (countB s sep)) ∧ w' = w := by
    subst hsep
    refine (Any.strings_Count_one { L with } s c w).mono fun e w' ⟨he, hw⟩ => ⟨?_, hw⟩
    rw [he]
    show _ = Ending.returned (Value.int .i64 ((count s.data.toList [c] : Nat) : Int))
    rw [count_one]
    rfl
  have cc := Any.strings_genSplit_core { L with } hi9 s sep 0 (-1) (countB s sep + 1) w hs h1 (Nat.zero_le _) hI hC (by decide) (by decide) (by rw [if_pos (by decide)]; omega)
  rw [Nat.add_sub_cancel, hlen] at cc
  have e2 : cellsOf (splitB sep 0 (countB s sep) s) (countB s sep + 1) = ((splitB sep 0 (countB s sep) s).map Value.string).toArray := by rw [← hlen]; exact cellsOf_full _
  rw [e2] at cc
  rw [← hsep]
  clear hI hC
  have t3 := L.t3; have t9 := L.t9; have t31 := L.t31
  have a3 := L.a3; have a9 := L.a9; have a31 := L.a31
  have z3 := L.z3; have v3 := L.v3; have z9 := L.z9; have v9 := L.v9; have z31 := L.z31; have v31 := L.v31
  have e221 : ∀ args w, (callFunc (ρ.f 221) args).run P w = .ok (.enter (ρ.f 221) args) w := enters_of L.f221 (by kernel_rfl) rfl
  clear hsep
  go_enter L.f146, Body.n146_ntmps ρ
  go_wp2_with (go_at_fn (ρ.f 221); refine cc.mono ?_; rintro e w' ⟨rfl, hw⟩; rw [hw])
  go_ret
  exact ⟨rfl, rfl⟩
end

/-- The pieces, as strings. -/
def piecesB (s : ByteArray) : List ByteArray := Lib.splitB ⟨#[58]⟩ 0 (Lib.countB s ⟨#[58]⟩) s
theorem pieces_length (s : ByteArray) : (piecesB s).length = Lib.countB s ⟨#[58]⟩ + 1 := Lib.splitB_all ⟨#[58]⟩ (Nat.le_refl 1) 0 _ s rfl
theorem pieces_data (s : ByteArray) : (piecesB s).map (·.data.toList) = splitC 58 s.data.toList := splitB_one 58 s
theorem splitB_size (sep : ByteArray) : ∀ (k : Nat) (s : ByteArray), ∀ p ∈ Lib.splitB sep 0 k s, p.size ≤ s.size
  | 0, s => by simp [Lib.splitB]
  | k + 1, s => by
    unfold Lib.splitB
    intro p hp
    split at hp
    · simp at hp; simp [hp]
    · rcases List.mem_cons.1 hp with rfl | hp
      · simp; omega
      · have := splitB_size sep k _ p hp
        simp at this
        omega

theorem Split_any (s : ByteArray) (w : World) (hs : s.size ≤ 102) :
    Calls Tryz.prog 114 #[.string s, .string ⟨#[58]⟩] w fun e w' => e = .returned (.slice (some ⟨w.heap.size, 0, none⟩) (piecesB s).length (piecesB s).length) ∧ w.alloc (.cells ((piecesB s).map Value.string).toArray 9) = w' := by
  refine (split_one Tryz.lays146 (by kernel_rfl) s 58 w (by omega)).mono fun e w' ⟨he, hw⟩ => ⟨?_, hw.symm⟩
  rw [he, pieces_length]

theorem good_eq (s : ByteArray) : goodB s.data.toList = (decide (s.size ≤ 102) && (decide ((piecesB s).length ≤ 6) && !(piecesB s).any fun p => !partB p.data.toList)) := by
  unfold goodB
  rw [data_len, ← pieces_data, List.length_map, List.any_map]
  rfl

set_option maxHeartbeats 1000000 in
theorem Good_any (s : ByteArray) (w : World) (hm : s.size ≤ maxLen) :
    Calls Tryz.prog 125 #[.string s] w fun e w' => e = .returned (.bool (goodB s.data.toList)) ∧ Below w.heap.size w w' := by
  unfold maxLen at hm
  obtain ⟨R, hR⟩ : ∃ R, R = goodB s.data.toList := ⟨_, rfl⟩
  rw [← hR]
  rw [good_eq] at hR
  have HR := Lib.hid hR
  clear hR
  by_cases h : s.size ≤ 102
  · have h1 : ¬ ((102 : Int) < s.size) := by omega
    have hps : ∀ p ∈ piecesB s, p.size ≤ maxLen := fun p hp => by
      have := splitB_size _ _ _ p hp
      unfold maxLen; omega
    have hpl : (piecesB s).length ≤ 103 := by
      rw [pieces_length]
      have := Lib.countB_le ⟨#[58]⟩ (Nat.le_refl 1) s.size s (Nat.le_refl _)
      omega
    obtain ⟨ps, hpd⟩ : ∃ ps, ps = piecesB s := ⟨_, rfl⟩
    have hsp := Split_any s w h
    rw [← hpd] at hsp hps hpl
    have HP : Hid (R = (decide (s.size ≤ 102) && (decide (ps.length ≤ 6) && !ps.any fun p => !partB p.data.toList))) := by rw [hpd]; exact HR.out
    clear hpd HR
    have hcells : ∀ j (hj : j < ps.length), (w.alloc (.cells (ps.map Value.string).toArray 9)).cell? ⟨w.heap.size, j, none⟩ = some (.string ps[j]) := fun j hj => by
      rw [cell_of_row _ _ j _ _ (0, 0) (heap_alloc_new w _)]
      simp [hj]
    have hct := contains_any ps w.heap.size ps.length _ (by unfold maxLen; omega) hps hcells
    have HS := Lib.hid hps
    have HC := Lib.hid hcells
    clear hps hcells
    by_cases h6 : ps.length ≤ 6
    · have h6' : decide ((ps.length : Int) ≤ 6) = true := decide_eq_true (by omega)
      go_enter Tryz.func125, Tryz.ntmps125
      go_wp2_with (first | (go_at_call 114; refine hsp.mono ?_; rintro e w' ⟨rfl, rfl⟩) | (go_at_call 89; refine hct.mono ?_; rintro e w' ⟨rfl, rfl⟩))
      go_ret
      refine ⟨ret_bool ?_, (Below.refl _ _).alloc (Nat.le_refl _) _⟩
      rw [HP.out]
      simp [h, h6]
    · have h6' : decide ((ps.length : Int) ≤ 6) = false := decide_eq_false (by omega)
      go_enter Tryz.func125, Tryz.ntmps125
      go_wp2_with (first | (go_at_call 114; refine hsp.mono ?_; rintro e w' ⟨rfl, rfl⟩))
      go_ret
      refine ⟨ret_bool ?_, (Below.refl _ _).alloc (Nat.le_refl _) _⟩
      rw [HP.out]
      simp [h, h6]
  · have h1 : ((102 : Int) < s.size) := by omega
    go_enter Tryz.func125, Tryz.ntmps125
    go_wp2
    go_ret
    refine ⟨ret_bool ?_, Below.refl _ _⟩
    rw [HR.out]
    simp [h]
end Go.Proofs.YtgocoofcelggcaaGreatDoor
namespace Go.Proofs.YtgocoofcelggcaaGreatDoor
open Go.RowKit
set_option linter.unusedVariables false
set_option linter.unusedSimpArgs false

/-- Of what was there, blocks of F alone may have turned. -/
structure Ch (F : Nat → Prop) (w w' : World) : Prop where
  os : w'.os = w.os
  tape : w'.tape = w.tape
  output : w'.output = w.output
  size : w.heap.size ≤ w'.heap.size
  block : ∀ k, k < w.heap.size → ¬ F k → w'.heap[k]? = w.heap[k]?

theorem Ch.refl (F : Nat → Prop) (w : World) : Ch F w w := ⟨rfl, rfl, rfl, Nat.le_refl _, fun _ _ _ => rfl⟩
theorem Ch.mono {F G : Nat → Prop} {w w' : World} (h : Ch F w w') (hg : ∀ k, F k → G k) : Ch G w w' := ⟨h.os, h.tape, h.output, h.size, fun k hk hn => h.block k hk fun hf => hn (hg k hf)⟩
theorem Ch.trans {F G : Nat → Prop} {a b c : World} (h : Ch F a b) (k : Ch G b c) (hG : ∀ i, G i → F i ∨ a.heap.size ≤ i) : Ch F a c :=
  ⟨k.os.trans h.os, k.tape.trans h.tape, k.output.trans h.output, Nat.le_trans h.size k.size, fun i hi hn =>
    (k.block i (Nat.lt_of_lt_of_le hi h.size) fun hg => by rcases hG i hg with h | h; exact hn h; omega).trans (h.block i hi hn)⟩
theorem Ch.trans' {F : Nat → Prop} {a b c : World} (h : Ch F a b) (k : Ch F b c) : Ch F a c := h.trans k fun _ h => .inl h
theorem Ch.drew {F : Nat → Prop} {a w : World} (h : Ch F a w) : Ch F a w.drew := ⟨h.os, h.tape, h.output, h.size, h.block⟩
theorem Ch.drewN {F : Nat → Prop} {a w : World} (h : Ch F a w) (n : Nat) : Ch F a (w.drewN n) := ⟨h.os, h.tape, h.output, h.size, h.block⟩
theorem Ch.alloc {F : Nat → Prop} {a w : World} (h : Ch F a w) (o : Obj) : Ch F a (w.alloc o) :=
  h.trans' ⟨rfl, rfl, rfl, by simp, fun k hk _ => Below.heap_alloc _ _ _ hk⟩
theorem Ch.setCell {F : Nat → Prop} {a w : World} (h : Ch F a w) {p : Addr} (hp : F p.block ∨ a.heap.size ≤ p.block) (u : Value) : Ch F a (w.setCell p u) :=
  h.trans (G := fun k => k = p.block) ⟨rfl, rfl, rfl, by simp [World.setCell], fun k hk hn => Below.heap_setCell _ _ _ _ hn⟩ fun i hi => by subst hi; exact hp
theorem Ch.putObj {F : Nat → Prop} {a w : World} (h : Ch F a w) {b : Nat} (hp : F b ∨ a.heap.size ≤ b) (o : Obj) : Ch F a (w.putObj b o) :=
  h.trans (G := fun k => k = b) ⟨rfl, rfl, rfl, by simp [World.putObj], fun k hk hn => by simp [World.putObj, Array.getElem?_setIfInBounds, Ne.symm hn]⟩ fun i hi => by subst hi; exact hp
theorem Ch.below {F : Nat → Prop} {a w w' : World} (h : Ch F a w) (k : Below w.heap.size w w') : Ch F a w' :=
  h.trans' ⟨k.os, k.tape, k.output, k.size, fun i hi _ => k.block i hi⟩
theorem Ch.of_below {F : Nat → Prop} {w w' : World} (k : Below w.heap.size w w') : Ch F w w' := (Ch.refl F w).below k
theorem Ch.grown {F : Nat → Prop} {a w w' : World} {row : Option Nat} (h : Ch F a w) (hg : w.grownBy w' row) (hr : ∀ k, row = some k → F k ∨ a.heap.size ≤ k) : Ch F a w' :=
  h.trans (G := fun k => row = some k) ⟨hg.os, hg.tape, hg.output, hg.size, fun k hk hn => hg.block k hk fun e => hn e.symm⟩ hr
theorem Ch.toBelow {F : Nat → Prop} {w w' : World} (h : Ch F w w') {B : Nat} (hB : B ≤ w.heap.size) (hF : ∀ k, F k → B ≤ k) : Below B w w' :=
  ⟨h.os, h.tape, h.output, h.size, fun k hk => h.block k (by omega) fun hf => by have := hF k hf; omega⟩

theorem heap_lt {w : World} {k : Nat} {o : Obj} (h : w.heap[k]? = some o) : k < w.heap.size := (Array.getElem?_eq_some_iff.1 h).1
theorem heap_setCell_same {w : World} {b i : Nat} {cs : Array Value} {t : TypeId} {fr : Nat × Nat} (h : w.heap[b]? = some (.cells cs t fr)) (v : Value) :
    (w.setCell ⟨b, i, none⟩ v).heap[b]? = some (.cells (cs.setIfInBounds i v) t fr) := by
  simp [World.setCell, Array.getElem?_modify, h]
theorem heap_putObj_same {w : World} {b : Nat} {o : Obj} (h : w.heap[b]? = some o) (o' : Obj) : (w.putObj b o').heap[b]? = some o' := by
  have := heap_lt h
  simp [World.putObj, Array.getElem?_setIfInBounds, this]
theorem heap_putObj_other {w : World} {b k : Nat} (o' : Obj) (h : k ≠ b) : (w.putObj b o').heap[k]? = w.heap[k]? := by
  simp [World.putObj, Array.getElem?_setIfInBounds, Ne.symm h]

/-- A map keyed by strings: its entries as pairs, in the order in which they came. -/
def StrMap (w : World) (b : Nat) (ps : List (ByteArray × Value)) : Prop :=
  ∃ (es : Array MapEntry) (clock : Nat), w.heap[b]? = some (.map es clock) ∧ es.toList.map (fun e => (e.key, e.val)) = ps.map fun p => (Value.string p.1, p.2)

theorem StrMap.lt {w : World} {b : Nat} {ps : List (ByteArray × Value)} (h : StrMap w b ps) : b < w.heap.size := by
  obtain ⟨_, _, h, _⟩ := h
  exact heap_lt h
theorem StrMap.keep {w w' : World} {b : Nat} {ps : List (ByteArray × Value)} (h : StrMap w b ps) (he : w'.heap[b]? = w.heap[b]?) : StrMap w' b ps := by
  obtain ⟨es, c, h1, h2⟩ := h
  exact ⟨es, c, he.trans h1, h2⟩

theorem beq_bytes (a b : ByteArray) : (a == b) = decide (a = b) := by
  cases a with
  | mk x => cases b with
    | mk y =>
      show (x == y) = _
      by_cases h : x = y
      · subst h; simp
      · simp [h]

/-- What a list of pairs gives at a key. -/
def getP (k : ByteArray) : List (ByteArray × Value) → Option Value
  | [] => none
  | p :: ps => if k = p.1 then some p.2 else getP k ps

theorem getP_append (k : ByteArray) (ps qs : List (ByteArray × Value)) : getP k (ps ++ qs) = (getP k ps).or (getP k qs) := by
  induction ps with
  | nil => rfl
  | cons p ps ih =>
    simp only [List.cons_append, getP]
    by_cases h : k = p.1
    · simp [h]
    · simp [h, ih]

theorem findNow_str (k : ByteArray) : ∀ (ps : List (ByteArray × Value)) (es : List MapEntry) (i : Nat), es.map (fun e => (e.key, e.val)) = ps.map (fun p => (Value.string p.1, p.2)) →
    ∃ r, Instr.findNow .string (.string k) es i = some r ∧ r.map (·.2) = getP k ps
  | [], es, i, h => by
    have : es = [] := by simpa using h
    subst this
    exact ⟨none, rfl, rfl⟩
  | p :: ps, [], i, h => by simp at h
  | p :: ps, e :: es, i, h => by
    simp only [List.map_cons, List.cons.injEq, Prod.mk.injEq] at h
    obtain ⟨⟨h1, h2⟩, h3⟩ := h
    obtain ⟨r, hr, hl⟩ := findNow_str k ps es (i + 1) h3
    by_cases hk : k = p.1
    · refine ⟨some (i, e.val), ?_, ?_⟩
      · simp [Instr.findNow, h1, Instr.sameNow, beq_bytes, hk]
      · simp [getP, hk, h2]
    · refine ⟨r, ?_, ?_⟩
      · simp [Instr.findNow, h1, Instr.sameNow, beq_bytes, hk, hr]
      · rw [hl]
        simp [getP, hk]

section
variable {P : Program}
theorem checkKey_str {K : TypeId} (hK : P.underlying K = some .string) (e : Bool) (k : ByteArray) (w : World) : (Instr.checkKey e 10000 K (.string k)).run P w = .ok () w :=
  MapKept.run_checkKey hK (d := .string) (k := .string k) trivial e 9999

theorem run_lookup_strmap {w : World} {b : Nat} {ps : List (ByteArray × Value)} (h : StrMap w b ps) {T K E : TypeId} (hT : P.underlying T = some (.map K E)) (hK : P.underlying K = some .string)
    {z : Value} (hz : ∀ w, (zeroValue E).run P w = .ok z w) (k : ByteArray) :
    Sem.run P (Instr.lookup T (.map (some b)) (.string k) false) w = .ok ((getP k ps).getD z) w := by
  obtain ⟨es, c, h1, h2⟩ := h
  obtain ⟨r, hr, hl⟩ := findNow_str k ps es.toList 0 h2
  have hck := fun e => checkKey_str hK e k w
  unfold Instr.lookup
  cases r with
  | none =>
    have hl' : getP k ps = none := by simpa using hl.symm
    simp [run_underlying hT, run_underlying hK, MapKept.run_getObj_map h1, hck, Instr.findKey, hr, hl', hz]
  | some x =>
    have hl' : getP k ps = some x.2 := by simpa using hl.symm
    simp [run_underlying hT, run_underlying hK, MapKept.run_getObj_map h1, hck, Instr.findKey, hr, hl']

theorem run_update_strmap {w : World} {b : Nat} {ps : List (ByteArray × Value)} (h : StrMap w b ps) {T K E : TypeId} (hT : P.underlying T = some (.map K E)) (hK : P.underlying K = some .string)
    (k : ByteArray) (v : Value) (hnew : getP k ps = none) :
    ∃ o, Sem.run P (Instr.mapUpdate T (.map (some b)) (.string k) v) w = .ok () (w.putObj b o) ∧ StrMap (w.putObj b o) b (ps ++ [(k, v)]) := by
  obtain ⟨es, c, h1, h2⟩ := h
  obtain ⟨r, hr, hl⟩ := findNow_str k ps es.toList 0 h2
  rw [hnew] at hl
  have : r = none := by simpa using hl
  subst this
  have hck := fun e => checkKey_str hK e k w
  refine ⟨.map (es.push { key := .string k, val := v, born := c }) (c + 1), ?_, es.push { key := .string k, val := v, born := c }, c + 1, heap_putObj_same h1 _, ?_⟩
  · unfold Instr.mapUpdate
    simp [run_underlying hT, run_underlying hK, MapKept.run_getObj_map h1, hck, Instr.findKey, hr, World.putObj, MapKept.run_setObj_map _ h1]
  · simp [h2]
end
end Go.Proofs.YtgocoofcelggcaaGreatDoor
namespace Go.Proofs.YtgocoofcelggcaaGreatDoor
open Go.RowKit
set_option linter.unusedVariables false
set_option linter.unusedSimpArgs false

structure AllInv (p : UInt8 → Bool) (s : ByteArray) (i : Value) (k : Nat) : Prop where
  le : k ≤ s.size
  at_ : i = .int .i64 (k : Int)
  all : ∀ j (hj : j < s.size), j < k → p s[j] = true

theorem all_of (p : UInt8 → Bool) (s : ByteArray) (h : ∀ j (hj : j < s.size), p s[j] = true) : s.data.toList.all p = true := by
  rw [List.all_eq_true]
  intro c hc
  obtain ⟨k, hk, rfl⟩ := List.getElem_of_mem hc
  exact h k (by rw [data_len] at hk; exact hk)
theorem not_all (p : UInt8 → Bool) (s : ByteArray) (k : Nat) (hk : k < s.size) (h : p s[k] = false) : s.data.toList.all p = false := by
  rw [Bool.eq_false_iff]
  intro e
  rw [List.all_eq_true] at e
  have := e s[k] (by rw [← data_get s k hk]; exact List.getElem_mem _)
  rw [h] at this
  cases this

theorem isDay_ev (n : Int) (w : World) : Calls Tryz.prog 52 #[.int .i64 n] w fun e w' => e = .returned (.bool (dayB n)) ∧ w = w' := by
  by_cases h1 : 1 ≤ n
  · go_enter Tryz.func52, Tryz.ntmps52
    go_wp2
    go_ret
    exact ⟨ret_bool (by unfold dayB; first | (exact decide_eq_decide.2 (by omega)) | exact (decide_eq_true (by omega)).symm | exact (decide_eq_false (by omega)).symm), rfl⟩
  · have h3 : n < 1 := by omega
    clear h1
    go_enter Tryz.func52, Tryz.ntmps52
    go_wp2
    go_ret
    exact ⟨ret_bool (by unfold dayB; first | (exact decide_eq_decide.2 (by omega)) | exact (decide_eq_true (by omega)).symm | exact (decide_eq_false (by omega)).symm), rfl⟩

set_option maxHeartbeats 1000000 in
theorem all_nameC (s : ByteArray) (w : World) (hm : s.size ≤ maxLen) : Calls Tryz.prog 116 #[.string s, .func (.func 117) #[] #[]] w fun e w' => e = .returned (.bool (s.data.toList.all nameC)) ∧ w = w' := by
  unfold maxLen at hm
  obtain ⟨R, hR⟩ : ∃ R, R = s.data.toList.all nameC := ⟨_, rfl⟩
  rw [← hR]
  have HR := Lib.hid hR
  clear hR
  go_enter Tryz.func116, Tryz.ntmps116
  go_wp2
  go_loop [8] (fun i => ∃ k : Nat, AllInv nameC s i k) (fun i => s.size - (intOf i).toNat)
  case atStart => exact ⟨0, Nat.zero_le _, rfl, fun _ _ h => absurd h (by omega)⟩
  case round =>
    obtain ⟨k, hk, rfl, hall⟩ := hrel
    have HA := Lib.hid hall
    clear hall
    by_cases hlt : k < s.size
    · have hc := nameC_any s[k]
      cases hb : nameC s[k] with
      | true =>
        rw [hb] at hc
        have HB := Lib.hid hb
        clear hb
        go_wp2_with (go_at_call 117; refine (hc _).mono ?_; rintro e w' ⟨rfl, rfl⟩)
        go_round
        case rel => exact ⟨k + 1, by omega, by go_num, fun j hj hjk => by
          by_cases e : j = k
          · subst e; exact HB.out
          · exact HA.out j hj (by omega)⟩
        case measure => simp [intOf]; omega
      | false =>
        rw [hb] at hc
        have HB := Lib.hid hb
        clear hb
        go_wp2_with (go_at_call 117; refine (hc _).mono ?_; rintro e w' ⟨rfl, rfl⟩)
        go_ret
        exact ⟨ret_bool (by rw [HR.out, not_all _ s k hlt HB.out]), rfl⟩
    · go_wp2
      go_ret
      exact ⟨ret_bool (by rw [HR.out, all_of _ s (fun j hj => HA.out j hj (by omega))]), rfl⟩

set_option maxHeartbeats 1000000 in
theorem all_keyC (s : ByteArray) (w : World) (hm : s.size ≤ maxLen) : Calls Tryz.prog 116 #[.string s, .func (.func 120) #[] #[]] w fun e w' => e = .returned (.bool (s.data.toList.all keyC)) ∧ w = w' := by
  unfold maxLen at hm
  obtain ⟨R, hR⟩ : ∃ R, R = s.data.toList.all keyC := ⟨_, rfl⟩
  rw [← hR]
  have HR := Lib.hid hR
  clear hR
  go_enter Tryz.func116, Tryz.ntmps116
  go_wp2
  go_loop [8] (fun i => ∃ k : Nat, AllInv keyC s i k) (fun i => s.size - (intOf i).toNat)
  case atStart => exact ⟨0, Nat.zero_le _, rfl, fun _ _ h => absurd h (by omega)⟩
  case round =>
    obtain ⟨k, hk, rfl, hall⟩ := hrel
    have HA := Lib.hid hall
    clear hall
    by_cases hlt : k < s.size
    · have hc := keyC_any s[k]
      cases hb : keyC s[k] with
      | true =>
        rw [hb] at hc
        have HB := Lib.hid hb
        clear hb
        go_wp2_with (go_at_call 120; refine (hc _).mono ?_; rintro e w' ⟨rfl, rfl⟩)
        go_round
        case rel => exact ⟨k + 1, by omega, by go_num, fun j hj hjk => by
          by_cases e : j = k
          · subst e; exact HB.out
          · exact HA.out j hj (by omega)⟩
        case measure => simp [intOf]; omega
      | false =>
        rw [hb] at hc
        have HB := Lib.hid hb
        clear hb
        go_wp2_with (go_at_call 120; refine (hc _).mono ?_; rintro e w' ⟨rfl, rfl⟩)
        go_ret
        exact ⟨ret_bool (by rw [HR.out, not_all _ s k hlt HB.out]), rfl⟩
    · go_wp2
      go_ret
      exact ⟨ret_bool (by rw [HR.out, all_of _ s (fun j hj => HA.out j hj (by omega))]), rfl⟩

set_option maxHeartbeats 1000000 in
theorem all_tagC (s : ByteArray) (w : World) (hm : s.size ≤ maxLen) : Calls Tryz.prog 116 #[.string s, .func (.func 138) #[] #[]] w fun e w' => e = .returned (.bool (s.data.toList.all tagC)) ∧ w = w' := by
  unfold maxLen at hm
  obtain ⟨R, hR⟩ : ∃ R, R = s.data.toList.all tagC := ⟨_, rfl⟩
  rw [← hR]
  have HR := Lib.hid hR
  clear hR
  go_enter Tryz.func116, Tryz.ntmps116
  go_wp2
  go_loop [8] (fun i => ∃ k : Nat, AllInv tagC s i k) (fun i => s.size - (intOf i).toNat)
  case atStart => exact ⟨0, Nat.zero_le _, rfl, fun _ _ h => absurd h (by omega)⟩
  case round =>
    obtain ⟨k, hk, rfl, hall⟩ := hrel
    have HA := Lib.hid hall
    clear hall
    by_cases hlt : k < s.size
    · have hc := tagC_any s[k]
      cases hb : tagC s[k] with
      | true =>
        rw [hb] at hc
        have HB := Lib.hid hb
        clear hb
        go_wp2_with (go_at_call 138; refine (hc _).mono ?_; rintro e w' ⟨rfl, rfl⟩)
        go_round
        case rel => exact ⟨k + 1, by omega, by go_num, fun j hj hjk => by
          by_cases e : j = k
          · subst e; exact HB.out
          · exact HA.out j hj (by omega)⟩
        case measure => simp [intOf]; omega
      | false =>
        rw [hb] at hc
        have HB := Lib.hid hb
        clear hb
        go_wp2_with (go_at_call 138; refine (hc _).mono ?_; rintro e w' ⟨rfl, rfl⟩)
        go_ret
        exact ⟨ret_bool (by rw [HR.out, not_all _ s k hlt HB.out]), rfl⟩
    · go_wp2
      go_ret
      exact ⟨ret_bool (by rw [HR.out, all_of _ s (fun j hj => HA.out j hj (by omega))]), rfl⟩

set_option maxHeartbeats 1000000 in
theorem all_memoC (s : ByteArray) (w : World) (hm : s.size ≤ maxLen) : Calls Tryz.prog 116 #[.string s, .func (.func 121) #[] #[]] w fun e w' => e = .returned (.bool (s.data.toList.all memoC)) ∧ w = w' := by
  unfold maxLen at hm
  obtain ⟨R, hR⟩ : ∃ R, R = s.data.toList.all memoC := ⟨_, rfl⟩
  rw [← hR]
  have HR := Lib.hid hR
  clear hR
  go_enter Tryz.func116, Tryz.ntmps116
  go_wp2
  go_loop [8] (fun i => ∃ k : Nat, AllInv memoC s i k) (fun i => s.size - (intOf i).toNat)
  case atStart => exact ⟨0, Nat.zero_le _, rfl, fun _ _ h => absurd h (by omega)⟩
  case round =>
    obtain ⟨k, hk, rfl, hall⟩ := hrel
    have HA := Lib.hid hall
    clear hall
    by_cases hlt : k < s.size
    · have hc := memoC_any s[k]
      cases hb : memoC s[k] with
      | true =>
        rw [hb] at hc
        have HB := Lib.hid hb
        clear hb
        go_wp2_with (go_at_call 121; refine (hc _).mono ?_; rintro e w' ⟨rfl, rfl⟩)
        go_round
        case rel => exact ⟨k + 1, by omega, by go_num, fun j hj hjk => by
          by_cases e : j = k
          · subst e; exact HB.out
          · exact HA.out j hj (by omega)⟩
        case measure => simp [intOf]; omega
      | false =>
        rw [hb] at hc
        have HB := Lib.hid hb
        clear hb
        go_wp2_with (go_at_call 121; refine (hc _).mono ?_; rintro e w' ⟨rfl, rfl⟩)
        go_ret
        exact ⟨ret_bool (by rw [HR.out, not_all _ s k hlt HB.out]), rfl⟩
    · go_wp2
      go_ret
      exact ⟨ret_bool (by rw [HR.out, all_of _ s (fun j hj => HA.out j hj (by omega))]), rfl⟩

theorem nil_isEmpty (s : ByteArray) : s.toList.isEmpty = nilB s := by
  unfold nilB
  rw [ByteArray.toList_eq]
theorem size_pos {s : ByteArray} (h : nilB s = false) : 1 ≤ s.size := by
  unfold nilB at h
  have h2 := data_len s
  cases hl : s.data.toList with
  | nil => rw [hl] at h; cases h
  | cons c r => rw [hl] at h2; simp at h2; omega
theorem size_nil {s : ByteArray} (h : nilB s = true) : s.size = 0 := by
  rw [nilB_iff.1 h]; rfl
theorem head_eq {s : ByteArray} (h : 1 ≤ s.size) : ∃ r, s.data.toList = s[0] :: r := by
  have h2 := data_len s
  cases hl : s.data.toList with
  | nil => rw [hl] at h2; simp at h2; omega
  | cons c r =>
    have := data_get s 0 h
    simp only [hl, List.getElem_cons_zero] at this
    exact ⟨r, by rw [this]⟩
theorem nameC_iff (c : UInt8) : nameC c = decide (nameP c) := by
  unfold nameC isUp isLow isDig nameP
  rw [← Bool.decide_or, ← Bool.decide_or, ← Bool.decide_or]
  exact decide_eq_decide.2 (by simp only [or_assoc])
theorem isUp_iff (c : UInt8) : isUp c = decide (upP c) := rfl

theorem key_nil {s : ByteArray} (h : nilB s = true) : keyB s = false := by unfold keyB; simp [h]
theorem key_long {s : ByteArray} (h : ¬ s.size ≤ 24) : keyB s = false := by unfold keyB; simp [h]
theorem key_all {s : ByteArray} (h : nilB s = false) (h2 : s.size ≤ 24) : keyB s = s.data.toList.all keyC := by unfold keyB; simp [h, h2]
theorem isKey_ev (s : ByteArray) (w : World) (hm : s.size ≤ maxLen) : Calls Tryz.prog 83 #[.string s] w fun e w' => e = .returned (.bool (keyB s)) ∧ w = w' := by
  have ha := all_keyC s
  have hn := nil_isEmpty s
  cases h1 : nilB s with
  | true =>
    rw [key_nil h1]
    rw [h1] at hn
    clear h1
    go_enter Tryz.func83, Tryz.ntmps83
    go_wp2
    go_ret
    exact ⟨rfl, rfl⟩
  | false =>
    rw [h1] at hn
    by_cases h2 : s.size ≤ 24
    · rw [key_all h1 h2]
      have h3 : (s.size : Int) ≤ 24 := by omega
      generalize s.data.toList.all keyC = R at *
      clear h1 h2
      cases R
      all_goals
        go_enter Tryz.func83, Tryz.ntmps83
        go_wp2_with (go_at_call 116; refine (ha _ hm).mono ?_; rintro e w' ⟨rfl, rfl⟩)
        go_ret
        exact ⟨rfl, rfl⟩
    · rw [key_long h2]
      have h3 : 24 < (s.size : Int) := by omega
      clear h1 h2
      go_enter Tryz.func83, Tryz.ntmps83
      go_wp2
      go_ret
      exact ⟨by first | rfl | (simp; done) | (simp; omega), rfl⟩

theorem memo_long {s : ByteArray} (h : ¬ s.size ≤ 80) : memoB s = false := by unfold memoB; simp [h]
theorem memo_all {s : ByteArray} (h2 : s.size ≤ 80) : memoB s = s.data.toList.all memoC := by unfold memoB; simp [h2]
theorem isMemo_ev (s : ByteArray) (w : World) (hm : s.size ≤ maxLen) : Calls Tryz.prog 84 #[.string s] w fun e w' => e = .returned (.bool (memoB s)) ∧ w = w' := by
  have ha := all_memoC s
  by_cases h2 : s.size ≤ 80
  · rw [memo_all h2]
    have h3 : (s.size : Int) ≤ 80 := by omega
    generalize s.data.toList.all memoC = R at *
    clear h2
    cases R
    all_goals
      go_enter Tryz.func84, Tryz.ntmps84
      go_wp2_with (go_at_call 116; refine (ha _ hm).mono ?_; rintro e w' ⟨rfl, rfl⟩)
      go_ret
      exact ⟨rfl, rfl⟩
  · rw [memo_long h2]
    have h3 : 80 < (s.size : Int) := by omega
    clear h2
    go_enter Tryz.func84, Tryz.ntmps84
    go_wp2
    go_ret
    exact ⟨by first | rfl | (simp; done) | (simp; omega), rfl⟩

theorem tag_nil {s : ByteArray} (h : nilB s = true) : tagB s = true := by rw [nilB_iff.1 h]; rfl
theorem tag_some {s : ByteArray} (h : 1 ≤ s.size) : tagB s = (decide (s.size ≤ 16) && isLow s[0] && s.data.toList.all tagC) := by
  obtain ⟨r, hr⟩ := head_eq h
  unfold tagB
  rw [hr]
theorem isTag_ev (s : ByteArray) (w : World) (hm : s.size ≤ maxLen) : Calls Tryz.prog 123 #[.string s] w fun e w' => e = .returned (.bool (tagB s)) ∧ w = w' := by
  have ha := all_tagC s
  have hn := nil_isEmpty s
  cases h1 : nilB s with
  | true =>
    rw [tag_nil h1]
    rw [h1] at hn
    clear h1
    go_enter Tryz.func123, Tryz.ntmps123
    go_wp2
    go_ret
    exact ⟨rfl, rfl⟩
  | false =>
    rw [h1] at hn
    have hp := size_pos h1
    rw [tag_some hp]
    have hl := lower_any s[0]
    by_cases h2 : s.size ≤ 16
    · have h3 : (s.size : Int) ≤ 16 := by omega
      rw [decide_eq_true h2]
      generalize s.data.toList.all tagC = R at *
      generalize isLow s[0] = u at *
      clear h1 h2
      cases u <;> cases R
      all_goals
        go_enter Tryz.func123, Tryz.ntmps123
        go_wp2_with (first
          | (go_at_call 118; refine (hl _).mono ?_; rintro e w' ⟨rfl, rfl⟩)
          | (go_at_call 116; refine (ha _ hm).mono ?_; rintro e w' ⟨rfl, rfl⟩))
        go_ret
        exact ⟨rfl, rfl⟩
    · rw [decide_eq_false h2]
      have h3 : 16 < (s.size : Int) := by omega
      clear h1 h2
      go_enter Tryz.func123, Tryz.ntmps123
      go_wp2
      go_ret
      exact ⟨by first | rfl | (simp; done) | (simp; omega), rfl⟩

/-! ### A name -/
theorem part_nil {s : ByteArray} (h : nilB s = true) : partB s.data.toList = false := part_false s (by have := size_nil h; omega)
theorem part_some {s : ByteArray} (h : 1 ≤ s.size) (h2 : s.size ≤ 16) : partB s.data.toList = (isUp s[0] && s.data.toList.all nameC) := by
  obtain ⟨r, hr⟩ := head_eq h
  unfold partB
  rw [data_len, decide_eq_true h2, hr, isUp_iff]
  have : (fun c => decide (nameP c)) = nameC := by funext c; exact (nameC_iff c).symm
  rw [this]
  simp

theorem Split_wide (s : ByteArray) (w : World) (hs : s.size ≤ 1048576) :
    Calls Tryz.prog 114 #[.string s, .string ⟨#[58]⟩] w fun e w' => e = .returned (.slice (some ⟨w.heap.size, 0, none⟩) (piecesB s).length (piecesB s).length) ∧ w.alloc (.cells ((piecesB s).map Value.string).toArray 9) = w' := by
  refine (split_one Tryz.lays146 (by kernel_rfl) s 58 w (by omega)).mono fun e w' ⟨he, hw⟩ => ⟨?_, hw.symm⟩
  rw [he, pieces_length]

theorem name_eq (s : ByteArray) : goodB s.data.toList = ((piecesB s).all (fun p => partB p.data.toList) && decide ((piecesB s).length ≤ 6)) := by
  rw [← nameB_good]
  unfold nameB
  rw [← pieces_data, List.length_map, List.all_map]
  rfl

/-- What a name's look leaves: its parts. -/
def nameO (s : ByteArray) : Obj := .cells ((piecesB s).map Value.string).toArray 9

structure NameInv (ps : List ByteArray) (i : Value) (k : Nat) : Prop where
  le : k ≤ ps.length
  at_ : i = .int .i64 (k : Int)
  all : ∀ j (hj : j < ps.length), j < k → partB (ps[j]).data.toList = true

theorem name_no (ps : List ByteArray) (k : Nat) (hk : k < ps.length) (h : partB (ps[k]).data.toList = false) (b : Bool) : (ps.all (fun p => partB p.data.toList) && b) = false := by
  have : ps.all (fun p => partB p.data.toList) = false := by
    rw [Bool.eq_false_iff]
    intro e
    rw [List.all_eq_true] at e
    have := e _ (List.getElem_mem hk)
    rw [h] at this
    cases this
  rw [this]
  rfl

set_option maxHeartbeats 2000000 in
theorem name_ev (s : ByteArray) (w : World) (hm : s.size ≤ 1048576) : Calls Tryz.prog 82 #[.string s] w fun e w' => e = .returned (.bool (goodB s.data.toList)) ∧ w.alloc (nameO s) = w' := by
  obtain ⟨R, hR⟩ : ∃ R, R = goodB s.data.toList := ⟨_, rfl⟩
  rw [← hR]
  rw [name_eq] at hR
  have hps : ∀ p ∈ piecesB s, p.size ≤ 1048576 := fun p hp => by
    have := splitB_size _ _ _ p hp
    omega
  have hpl : (piecesB s).length ≤ 1048577 := by
    rw [pieces_length]
    have := Lib.countB_le ⟨#[58]⟩ (Nat.le_refl 1) s.size s (Nat.le_refl _)
    omega
  have hsp := Split_wide s w hm
  unfold nameO
  obtain ⟨ps, hpd⟩ : ∃ ps, ps = piecesB s := ⟨_, rfl⟩
  rw [← hpd] at hsp hps hpl hR ⊢
  clear hpd
  have HR := Lib.hid hR
  have HS := Lib.hid hps
  have hcells : ∀ j (hj : j < ps.length), (w.alloc (.cells (ps.map Value.string).toArray 9)).cell? ⟨w.heap.size, j, none⟩ = some (.string ps[j]) := fun j hj => by
    rw [cell_of_row _ _ j _ _ (0, 0) (heap_alloc_new w _)]
    simp [hj]
  have hbel : Below w.heap.size w (w.alloc (.cells (ps.map Value.string).toArray 9)) := (Below.refl _ _).alloc (Nat.le_refl _) _
  obtain ⟨W1, hW1⟩ : ∃ W1, w.alloc (.cells (ps.map Value.string).toArray 9) = W1 := ⟨_, rfl⟩
  rw [hW1] at hsp hcells hbel ⊢
  have HC := Lib.hid hcells
  clear hR hps hcells hW1
  go_enter Tryz.func82, Tryz.ntmps82
  go_wp2_with (go_at_call 114; refine hsp.mono ?_; rintro e w' ⟨rfl, rfl⟩)
  go_loop [10] (fun i => ∃ k : Nat, NameInv ps i k) (fun i => ps.length - (intOf i).toNat)
  case atStart => exact ⟨0, Nat.zero_le _, rfl, fun _ _ h => absurd h (by omega)⟩
  case round =>
    obtain ⟨k, hk, rfl, hall⟩ := hrel
    have HA := Lib.hid hall
    clear hall
    by_cases hlt : k < ps.length
    · have hcell := HC.out k hlt
      have hsz := HS.out _ (List.getElem_mem hlt)
      obtain ⟨p, hp⟩ : ∃ p, p = ps[k] := ⟨_, rfl⟩
      rw [← hp] at hcell hsz
      have HP := Lib.hid hp
      clear hp
      have bad : partB p.data.toList = false → R = false := fun h => by rw [HR.out]; exact name_no ps k hlt (by rw [← HP.out]; exact h) _
      have BAD := Lib.hid bad
      clear bad
      have ha := all_nameC p
      have hn := nil_isEmpty p
      cases h1 : nilB p with
      | true =>
        rw [h1] at hn
        have hR0 := Lib.hid (BAD.out (part_nil h1))
        clear h1
        go_wp2
        go_ret
        exact ⟨ret_bool hR0.out.symm, rfl⟩
      | false =>
        rw [h1] at hn
        have hpo := size_pos h1
        by_cases h2 : p.size ≤ 16
        · have hpart := Lib.hid (part_some hpo h2)
          have h3 : (p.size : Int) ≤ 16 := by omega
          have hu := upper_any p[0]
          have hml : p.size ≤ maxLen := by unfold maxLen; omega
          have HP2 := Lib.hid hpart.out
          cases hb1 : isUp p[0] with
          | false =>
            have hR0 := Lib.hid (BAD.out (by rw [HP2.out, hb1]; rfl))
            rw [hb1] at hu
            clear h1 h2 hb1
            go_wp2_with (go_at_call 115; refine (hu _).mono ?_; rintro e w' ⟨rfl, rfl⟩)
            go_ret
            exact ⟨ret_bool hR0.out.symm, rfl⟩
          | true =>
            rw [hb1] at hu
            cases hb2 : p.data.toList.all nameC with
            | false =>
              have hR0 := Lib.hid (BAD.out (by rw [HP2.out, hb1, hb2]; rfl))
              rw [hb2] at ha
              clear h1 h2 hb1 hb2
              go_wp2_with (first
                | (go_at_call 115; refine (hu _).mono ?_; rintro e w' ⟨rfl, rfl⟩)
                | (go_at_call 116; refine (ha _ hml).mono ?_; rintro e w' ⟨rfl, rfl⟩))
              go_ret
              exact ⟨ret_bool hR0.out.symm, rfl⟩
            | true =>
              have hg := Lib.hid (show partB p.data.toList = true by rw [HP2.out, hb1, hb2]; rfl)
              rw [hb2] at ha
              clear h1 h2 hb1 hb2
              go_wp2_with (first
                | (go_at_call 115; refine (hu _).mono ?_; rintro e w' ⟨rfl, rfl⟩)
                | (go_at_call 116; refine (ha _ hml).mono ?_; rintro e w' ⟨rfl, rfl⟩))
              go_round
              case rel => exact ⟨k + 1, by omega, by go_num, fun j hj hjk => by
                by_cases e : j = k
                · subst e; rw [← HP.out]; exact hg.out
                · exact HA.out j hj (by omega)⟩
              case measure => simp [intOf]; omega
        · have hR0 := Lib.hid (BAD.out (part_false p (by omega)))
          have h3 : 16 < (p.size : Int) := by omega
          clear h1 h2
          go_wp2
          go_ret
          exact ⟨ret_bool hR0.out.symm, rfl⟩
    · have hR1 := Lib.hid (show R = decide (ps.length ≤ 6) by
        rw [HR.out, show ps.all (fun p => partB p.data.toList) = true from List.all_eq_true.2 fun p hp => by
          obtain ⟨j, hj, rfl⟩ := List.getElem_of_mem hp
          exact HA.out j hj (by omega)]
        rfl)
      go_wp2
      go_ret
      refine ⟨ret_bool ?_, rfl⟩
      rw [hR1.out]
      exact decide_eq_decide.2 (by omega)

/-! ### Amounts -/
def amtE (a : Int) : Int := if a = -9223372036854775808 then 10 else 0
theorem money_Check (a : Int) (w : World) : Calls Tryz.prog 122 #[.int .i64 a] w fun e w' => e = .returned (.int .i64 (amtE a)) ∧ w = w' := by
  unfold amtE
  by_cases h : a = -9223372036854775808
  · have hb : (a == -9223372036854775808) = true := by simpa using h
    rw [if_pos h]
    clear h
    go_enter Tryz.func122, Tryz.ntmps122
    go_wp2
    go_ret
    exact ⟨rfl, rfl⟩
  · have hb : (a == -9223372036854775808) = false := by simpa using h
    rw [if_neg h]
    clear h
    go_enter Tryz.func122, Tryz.ntmps122
    go_wp2
    go_ret
    exact ⟨rfl, rfl⟩
end Go.Proofs.YtgocoofcelggcaaGreatDoor
namespace Go.Proofs.YtgocoofcelggcaaGreatDoor
open Go.RowKit
set_option linter.unusedVariables false
set_option linter.unusedSimpArgs false

/-- What a round keeps: blocks below n₀; boxes of type T; from B on whatever is no cells. -/
structure Kp (T : TypeId) (n₀ B : Nat) (A A' : World) : Prop where
  bel : Below n₀ A A'
  box : ∀ k v, Boxed A k T v → Boxed A' k T v
  same : KeepsFrom B A A'

theorem Kp.refl (T : TypeId) (n₀ B : Nat) (A : World) : Kp T n₀ B A A := ⟨Below.refl _ _, fun _ _ h => h, KeepsFrom.refl _ _⟩
theorem Kp.trans {T : TypeId} {n₀ B : Nat} {X Y Z : World} (h : Kp T n₀ B X Y) (k : Kp T n₀ B Y Z) : Kp T n₀ B X Z := ⟨h.bel.trans k.bel, fun i v hi => k.box i v (h.box i v hi), h.same.trans k.same⟩
theorem Kp.mono {T : TypeId} {n₀ B B' : Nat} {X Y : World} (h : Kp T n₀ B X Y) (hB : B ≤ B') : Kp T n₀ B' X Y := ⟨h.bel, h.box, h.same.size, fun k o hk => h.same.same k o (Nat.le_trans hB hk)⟩
theorem Kp.drew {T : TypeId} {n₀ B : Nat} {X Y : World} (h : Kp T n₀ B X Y) : Kp T n₀ B X Y.drew := ⟨h.bel.drew, h.box, h.same.size, h.same.same⟩
theorem Kp.alloc {T : TypeId} {n₀ B : Nat} {X : World} (o : Obj) (h : n₀ ≤ X.heap.size) : Kp T n₀ B X (X.alloc o) :=
  ⟨(Below.refl _ _).alloc h o, fun k v hk => hk.alloc o, (KeepsOthers.alloc X o).from B⟩
/-- A block that is no cells is turned; it lies below B. -/
theorem Kp.putObj {T : TypeId} {n₀ B : Nat} {X : World} {l : Nat} {o : Obj} (o' : Obj) (h : n₀ ≤ l) (hl : X.heap[l]? = some o) (ho : o.isCells = false) (hB : l < B) : Kp T n₀ B X (X.putObj l o') :=
  ⟨(Below.refl _ _).grown (grownBy_putObj' X l o') (by have := (Array.getElem?_eq_some_iff.1 hl).1; omega) (fun k e => by cases e; exact h),
   fun k v hk => hk.kept (grownBy_putObj' X l o') (fun e => by injection e with e; subst e; rw [show X.heap[k]? = _ from hk] at hl; cases hl; cases ho),
   KeepsFrom.of_grownBy (grownBy_putObj' X l o') (fun j e => by cases e; exact hB)⟩
/-- A cell of a block of another type is turned. -/
theorem Kp.setCell {T : TypeId} {n₀ B : Nat} {X : World} {b i : Nat} (u : Value) (h : n₀ ≤ b) (hb : ∀ v, ¬ Boxed X b T v) : Kp T n₀ B X (X.setCell ⟨b, i, none⟩ u) :=
  ⟨(Below.refl _ _).setCell (p := ⟨b, i, none⟩) h u, fun k v hk => by
    have hne : k ≠ b := fun e => hb v (e ▸ hk)
    exact (Below.heap_setCell X ⟨b, i, none⟩ u k hne).trans hk, (KeepsOthers.setCell _ _ _).from B⟩

section
variable {α : Type} {F : Fence} {P : Program}

/-- What an iterator promises: all of ys come; or a round has said 'no more'. -/
def It (F : Fence) (P : Program) (g : Nat) (lb : Array Value) (T : TypeId) (enc : α → Value) (n₀ : Nat) (ys : List α) (w : World) : Prop :=
  ∀ (l : Nat) (J Jx : List α → World → Prop) (W : World), Below w.heap.size w W → OwnFrom W.heap.size J → OwnFrom W.heap.size Jx →
    (∀ m pre x W1, J pre W1 → pre ++ [x] <+: ys → YieldAt F m P l #[enc x] W1 fun e W' =>
      ((e = .returned (.bool true) ∧ J (pre ++ [x]) W') ∨ (e = .returned (.bool false) ∧ Jx (pre ++ [x]) W')) ∧ Kp T n₀ W.heap.size W1 W') →
    J [] W →
    ∀ n, CallsIn F n P g (#[.func (.yield l) #[] #[]] ++ lb) W fun e W' => (∃ v, e = .returned v) ∧ (J ys W' ∨ ∃ pre, pre <+: ys ∧ Jx pre W')

/-- How a round's body may be left. -/
def itPost (T : TypeId) (n₀ B : Nat) (I Ix : List α → World → Prop) (xs : List α) (W : World) : Exit → Act → World → Prop
  | .normal, _, W' => Kp T n₀ B W W' ∧ I xs W'
  | .ret, _, W' => Kp T n₀ B W W' ∧ Ix xs W'
  | _, _, _ => False

theorem wpIn_range_it {n : Nat} {g : Operand} {p : Tmp} {assign body : Code} {Q : Exit → Act → World → Prop} {a : Act} {w : World} {T : TypeId} {enc : α → Value} {n₀ : Nat} {ys : List α}
    (hd : F.depth = none) (hro : F.round = none) {gf : Nat} {lb : Array Value} (hg : a.eval g = .func (.func gf) #[] lb) (hFg : F.fn gf) (eg : ∀ args w, (callFunc gf args).run P w = .ok (.enter gf args) w)
    (hit : It F P gf lb T enc n₀ ys w) (hn₀ : n₀ ≤ w.heap.size)
    (I Ix : List α → World → Prop) (hI : OwnFrom w.heap.size I) (hIx : OwnFrom w.heap.size Ix) (h0 : I [] w)
    (Ax : α → Act → World → Prop) (hAx : ∀ x a', OwnFrom w.heap.size (fun (_ : Unit) W => Ax x a' W))
    (hassign : ∀ (l m : Nat) (pre : List α) (x : α) (W : World) (K : Act → World → Prop), w.heap.size ≤ W.heap.size → I pre W →
      (∀ a' W', Kp T n₀ w.heap.size W W' → I pre W' → Ax x a' W' → K a' W') →
      assign.wpIn (F.inRound l) m P (Exit.then K (fun _ _ _ => False)) { tmps := (#[p].zip #[enc x]).foldl (fun t (p, v) => t.setIfInBounds p v) a.tmps, defers := [] } W)
    (hbody : ∀ (l m : Nat) (pre : List α) (x : α) (a' : Act) (W : World), w.heap.size ≤ W.heap.size → I pre W → Ax x a' W → pre ++ [x] <+: ys → body.wpIn (F.inRound l) m P (itPost T n₀ w.heap.size I Ix (pre ++ [x]) W) a' W)
    (hdone : ∀ (D : Nat) (W : World), w.heap.size ≤ D → I ys W → W.heap[D]? = some (.deferred (some [])) → Q .normal { a with defers := { target := .collected D, args := #[] } :: a.defers } W)
    (hstop : ∀ (D : Nat) (pre : List α) (W : World), w.heap.size ≤ D → pre <+: ys → Ix pre W → W.heap[D]? = some (.deferred (some [])) → Code.ret.wpIn F n P Q { a with defers := { target := .collected D, args := #[] } :: a.defers } W) :
    (Code.rangeFunc g #[p] assign body).wpIn F n P Q a w := by
  refine wpIn_rangeFunc ?_
  intro fn hfn
  rw [hro]
  obtain ⟨rec, hrec⟩ : ∃ rec : LoopState → Option Code → Loop, rec = fun st pe => { state := st, pending := pe, fn, tmps := a.tmps, params := #[p], assign, body, defers := w.heap.size } := ⟨_, rfl⟩
  obtain ⟨W1, hW1⟩ : ∃ W1, (w.alloc (.deferred (some []))).alloc (.loop (rec .ready none)) = W1 := ⟨_, rfl⟩
  have hs1 : W1.heap.size = w.heap.size + 2 := by rw [← hW1]; simp
  have hL1 : W1.heap[w.heap.size + 1]? = some (.loop (rec .ready none)) := by
    rw [← hW1]; have := World.alloc_heap_new (w.alloc (.deferred (some []))) (.loop (rec .ready none)); rwa [World.size_alloc] at this
  have hK1 : W1.heap[w.heap.size]? = some (.deferred (some [])) := by
    rw [← hW1]; exact (Below.heap_alloc _ _ _ (by simp)).trans (World.alloc_heap_new w _)
  have hI1 : I [] W1 := by rw [← hW1]; exact hI.alloc _ (hI.alloc _ h0)
  have hb1 : Below w.heap.size w W1 := by
    rw [← hW1]; exact ((Below.refl _ w).alloc (Nat.le_refl _) _).alloc (by simp) _
  have keep : ∀ {A B : World} {row : Option Nat} {k : Nat} {o : Obj}, A.heap[k]? = some o → k < W1.heap.size → A.grownBy B row → (∀ r, row = some r → W1.heap.size ≤ r ∧ ∃ o : Obj, A.heap[r]? = some o ∧ o.isCells = false) → B.heap[k]? = some o :=
    fun hA hk hg hr => (hg.block _ (Array.getElem?_eq_some_iff.1 hA).1 (fun e => by have := (hr _ e.symm).1; omega)).trans hA
  have wide : ∀ {A B : World} {row : Option Nat}, (∀ r, row = some r → W1.heap.size ≤ r ∧ ∃ o : Obj, A.heap[r]? = some o ∧ o.isCells = false) → (∀ r, row = some r → w.heap.size ≤ r ∧ ∃ o : Obj, A.heap[r]? = some o ∧ o.isCells = false) :=
    fun hr r e => ⟨by have := (hr r e).1; omega, (hr r e).2⟩
  refine ⟨w.heap.size + 1, [{ target := .collected w.heap.size, args := #[] }], W1, { target := .fn (.func gf) lb, args := #[.func (.yield (w.heap.size + 1)) #[] #[]] }, W1, gf,
    #[.func (.yield (w.heap.size + 1)) #[] #[]] ++ lb, W1, ?_, ?_, ?_, ?_, fun h => by (rw [hd] at h; cases h), ?_⟩
  · rw [← hW1, hrec]; exact run_enterLoop_outer _ _ _ _ _
  · simp only [resolve, hg]
    simp [go_sem]
  · intro f' hf'; simp [Target.leads] at hf'; subst hf'; exact hFg
  · simp [invoke, go_sem, eg]
  · refine (hit (w.heap.size + 1)
      (fun pre W => I pre W ∧ W.heap[w.heap.size + 1]? = some (.loop (rec .ready none)) ∧ W.heap[w.heap.size]? = some (.deferred (some [])))
      (fun pre W => Ix pre W ∧ W.heap[w.heap.size + 1]? = some (.loop (rec .done (some .ret))) ∧ W.heap[w.heap.size]? = some (.deferred (some [])))
      W1 hb1
      (fun s A B row hs hg' hr => ⟨hI s A B row hs.1 hg' (wide (B := B) hr), keep hs.2.1 (by omega) hg' hr, keep hs.2.2 (by omega) hg' hr⟩)
      (fun s A B row hs hg' hr => ⟨hIx s A B row hs.1 hg' (wide (B := B) hr), keep hs.2.1 (by omega) hg' hr, keep hs.2.2 (by omega) hg' hr⟩)
      ?_ ⟨hI1, hL1, hK1⟩ (n - 1)).mono ?_
    · rintro m pre x W ⟨hi, hl, hk⟩ hpre
      have hlt : w.heap.size + 1 < W.heap.size := (Array.getElem?_eq_some_iff.1 hl).1
      have hy := run_yield (P := P) (args := #[enc x]) hl (by rw [hrec]; rfl)
      rw [hrec] at hy
      refine ⟨fn, _, assign, body, hy, roundIn_of_wpIn hfn ?_⟩
      clear hy
      refine hassign _ m pre x W _ (by omega) hi ?_
      intro a' Wa hka hia hax
      have hla := hka.same.same _ _ (by omega) hl rfl
      have hkk := hka.same.same _ _ (Nat.le_refl _) hk rfl
      have hlta : w.heap.size + 1 < Wa.heap.size := (Array.getElem?_eq_some_iff.1 hla).1
      refine ⟨_, run_beginRound hla (by rw [hrec]), ?_⟩
      have hl2 : (Wa.putObj (w.heap.size + 1) (.loop { rec .ready none with state := .busy })).heap[w.heap.size + 1]? = some (.loop { rec .ready none with state := .busy }) := World.putObj_heap_same hlta
      have hk2 : (Wa.putObj (w.heap.size + 1) (.loop { rec .ready none with state := .busy })).heap[w.heap.size]? = some (.deferred (some [])) := (World.putObj_heap_other (by omega)).trans hkk
      have hw2 : Kp T n₀ W1.heap.size Wa (Wa.putObj (w.heap.size + 1) (.loop { rec .ready none with state := .busy })) := Kp.putObj _ (by omega) hla rfl (by omega)
      refine wpIn_mono (hbody _ m pre x a' _ (by simp [World.putObj]; omega) (hI.putObj _ hia (by omega) hla rfl) ((hAx x a').putObj (s := ()) _ hax (by omega) hla rfl) hpre) ?_
      have fin : ∀ (jump : Option Code) (W3 : World), Kp T n₀ w.heap.size (Wa.putObj (w.heap.size + 1) (.loop { rec .ready none with state := .busy })) W3 →
          (Instr.endRound (w.heap.size + 1) jump).run P W3 = .ok (.bool jump.isNone) (W3.putObj (w.heap.size + 1) (.loop (rec (if jump.isNone then .ready else .done) jump))) ∧
          W3.heap[w.heap.size + 1]? = some (.loop { rec .ready none with state := .busy }) ∧
          (W3.putObj (w.heap.size + 1) (.loop (rec (if jump.isNone then .ready else .done) jump))).heap[w.heap.size + 1]? = some (.loop (rec (if jump.isNone then .ready else .done) jump)) ∧
          (W3.putObj (w.heap.size + 1) (.loop (rec (if jump.isNone then .ready else .done) jump))).heap[w.heap.size]? = some (.deferred (some [])) ∧
          Kp T n₀ W1.heap.size W (W3.putObj (w.heap.size + 1) (.loop (rec (if jump.isNone then .ready else .done) jump))) := fun jump W3 hk3 => by
        have hl3 := hk3.same.same _ _ (by omega) hl2 rfl
        have hrun := run_endRound (P := P) jump hl3
        rw [hrec] at hrun ⊢
        refine ⟨hrun, by rw [hrec] at hl3; exact hl3, World.putObj_heap_same (Array.getElem?_eq_some_iff.1 hl3).1, (World.putObj_heap_other (by omega)).trans (hk3.same.same _ _ (Nat.le_refl _) hk2 rfl), ?_⟩
        exact (((hka.mono (by omega)).trans hw2).trans (hk3.mono (by omega))).trans (Kp.putObj _ (by omega) hl3 rfl (by omega))
      rintro e a3 W3 hp
      cases e with
      | normal =>
        obtain ⟨hk3, hi3⟩ := hp
        obtain ⟨hr, hl3, hl4, hk4, hkp⟩ := fin none W3 hk3
        exact ⟨_, _, hr, .inl ⟨rfl, hI.putObj _ hi3 (by omega) hl3 rfl, hl4, hk4⟩, hkp⟩
      | ret =>
        obtain ⟨hk3, hi3⟩ := hp
        obtain ⟨hr, hl3, hl4, hk4, hkp⟩ := fin (some .ret) W3 hk3
        exact ⟨_, _, hr, .inr ⟨rfl, hIx.putObj _ hi3 (by omega) hl3 rfl, hl4, hk4⟩, hkp⟩
      | exit id => exact hp.elim
      | goto t => exact hp.elim
      | panic ch => exact hp.elim
      | outgrown => exact hp.elim
    · rintro e W2 ⟨⟨v, rfl⟩, (⟨hi, hl, hk⟩ | ⟨pre, hSp, hi, hl, hk⟩)⟩
      · exact ⟨none, _, by have := run_endLoop (P := P) hl (by rw [hrec]; simp); rw [hrec] at this; exact this, hdone _ _ (Nat.le_refl _) (hI.putObj _ hi (by omega) hl rfl) ((World.putObj_heap_other (by omega)).trans hk)⟩
      · exact ⟨some .ret, _, by have := run_endLoop (P := P) hl (by rw [hrec]; simp); rw [hrec] at this; exact this, hstop _ pre _ (Nat.le_refl _) hSp (hIx.putObj _ hi (by omega) hl rfl) ((World.putObj_heap_other (by omega)).trans hk)⟩
end
end Go.Proofs.YtgocoofcelggcaaGreatDoor
namespace Go.Proofs.YtgocoofcelggcaaGreatDoor
open Go.RowKit
set_option linter.unusedVariables false
set_option linter.unusedSimpArgs false

structure Acct where
  name : ByteArray
  typ : Int
  opened : Int
  closed : Bool

/-- What stands above a name. -/
def parentF (n : ByteArray) : Option ByteArray :=
  if goodB n.data.toList = true ∧ 0 ≤ Lib.lastIndexByte n 58 then some (n.extract 0 (Lib.lastIndexByte n 58).toNat) else none

def findA (L : List Acct) (n : ByteArray) : Option Acct := L.find? fun a => decide (a.name = n)
def kidsA (L : List Acct) (n : ByteArray) : List Acct := L.filter fun a => decide (parentF a.name = some n)
def rootsA (L : List Acct) : List Acct := L.filter fun a => decide (parentF a.name = none)

theorem findA_some {L : List Acct} {n : ByteArray} {a : Acct} (h : findA L n = some a) : a ∈ L ∧ a.name = n := by
  unfold findA at h
  exact ⟨List.mem_of_find?_eq_some h, by simpa using List.find?_some h⟩

def ptrV (b : Nat) : Value := .pointer (some ⟨b, 0, none⟩)

/-- How a chart lies in memory: mb the map's block, rv the list of roots, nb an account's block, kv the list of those right below it, ps the map's entries; F holds all blocks of the chart. -/
structure CR (w : World) (F : Nat → Prop) (cb : Nat) (L : List Acct) (mb : Nat) (rv : Value) (nb : ByteArray → Nat) (kv : ByteArray → Value) (ps : List (ByteArray × Value)) : Prop where
  hC : w.heap[cb]? = some (.cells #[.map (some mb), rv] 111 (0, 0))
  hM : StrMap w mb ps
  hps : ∀ k, getP k ps = (findA L k).map fun a => ptrV (nb a.name)
  hlen : ps.length = L.length
  le : L.length ≤ 100
  hN : ∀ a ∈ L, w.heap[nb a.name]? = some (.cells #[.string a.name, .int .i64 a.typ, .int .i64 a.opened, .bool a.closed, kv a.name] 133 (0, 0))
  hK : ∀ a ∈ L, w.ownsRow 0 131 1 (kv a.name) (kidsA L a.name).length ((kidsA L a.name).map fun b => ptrV (nb b.name))
  hR : w.ownsRow 0 131 1 rv (rootsA L).length ((rootsA L).map fun b => ptrV (nb b.name))
  fC : F cb
  fM : F mb
  fN : ∀ a ∈ L, F (nb a.name)
  fK : ∀ a ∈ L, ∀ k, (kv a.name).ownBlock = some k → F k
  fR : ∀ k, rv.ownBlock = some k → F k
  inj : ∀ a ∈ L, ∀ b ∈ L, nb a.name = nb b.name → a.name = b.name
  dK : ∀ a ∈ L, ∀ b ∈ L, a.name ≠ b.name → ∀ k, (kv a.name).ownBlock = some k → (kv b.name).ownBlock ≠ some k
  dR : ∀ a ∈ L, ∀ k, (kv a.name).ownBlock = some k → rv.ownBlock ≠ some k

structure ChartAt (w : World) (F : Nat → Prop) (cb : Nat) (L : List Acct) : Prop where
  ex : ∃ mb rv nb kv ps, CR w F cb L mb rv nb kv ps

theorem ownsRow_keep {w w' : World} {B e size n : Nat} {v : Value} {xs : List Value} (h : w.ownsRow B e size v n xs) (hk : ∀ k, v.ownBlock = some k → w'.heap[k]? = w.heap[k]?) : w'.ownsRow B e size v n xs := by
  refine ⟨h.1, ?_⟩
  rcases h.2 with hn | ⟨g, cap, cur, rfl, hb, hg, r⟩
  · exact .inl hn
  · exact .inr ⟨g, cap, cur, rfl, hb, (hk g rfl).trans hg, r⟩

/-- What is not touched lives on. -/
theorem CR.keep {w w' : World} {F : Nat → Prop} {cb mb : Nat} {L : List Acct} {rv : Value} {nb : ByteArray → Nat} {kv : ByteArray → Value} {ps : List (ByteArray × Value)}
    (h : CR w F cb L mb rv nb kv ps) (hk : ∀ k, F k → k < w.heap.size → w'.heap[k]? = w.heap[k]?) : CR w' F cb L mb rv nb kv ps where
  hC := (hk cb h.fC (heap_lt h.hC)).trans h.hC
  hM := h.hM.keep (hk mb h.fM h.hM.lt)
  hps := h.hps
  hlen := h.hlen
  le := h.le
  hN := fun a ha => (hk _ (h.fN a ha) (heap_lt (h.hN a ha))).trans (h.hN a ha)
  hK := fun a ha => ownsRow_keep (h.hK a ha) fun k e => hk k (h.fK a ha k e) ((h.hK a ha).lt k e).2
  hR := ownsRow_keep h.hR fun k e => hk k (h.fR k e) (h.hR.lt k e).2
  fC := h.fC
  fM := h.fM
  fN := h.fN
  fK := h.fK
  fR := h.fR
  inj := h.inj
  dK := h.dK
  dR := h.dR
theorem ChartAt.keep {w w' : World} {F : Nat → Prop} {cb : Nat} {L : List Acct} (h : ChartAt w F cb L) (hk : ∀ k, F k → k < w.heap.size → w'.heap[k]? = w.heap[k]?) : ChartAt w' F cb L := by
  obtain ⟨mb, rv, nb, kv, ps, h⟩ := h
  exact ⟨mb, rv, nb, kv, ps, h.keep hk⟩
theorem ChartAt.ch {w w' : World} {F G : Nat → Prop} {cb : Nat} {L : List Acct} (h : ChartAt w F cb L) (hc : Ch G w w') (hd : ∀ k, F k → ¬ G k) : ChartAt w' F cb L :=
  h.keep fun k hf hl => hc.block k hl (hd k hf)
theorem ChartAt.below {w w' : World} {F : Nat → Prop} {cb : Nat} {L : List Acct} (h : ChartAt w F cb L) (hb : Below w.heap.size w w') : ChartAt w' F cb L :=
  h.keep fun k hf hl => hb.block k hl

theorem CR.lookup {w : World} {F : Nat → Prop} {cb mb : Nat} {L : List Acct} {rv : Value} {nb : ByteArray → Nat} {kv : ByteArray → Value} {ps : List (ByteArray × Value)}
    (h : CR w F cb L mb rv nb kv ps) (n : ByteArray) :
    Sem.run Tryz.prog (Instr.lookup 108 (.map (some mb)) (.string n) false) w = .ok (match findA L n with | some a => ptrV (nb a.name) | none => .pointer none) w := by
  rw [run_lookup_strmap h.hM Tryz.underlying108 Tryz.underlying9 Tryz.zeroValue131 n, h.hps n]
  cases findA L n <;> rfl
end Go.Proofs.YtgocoofcelggcaaGreatDoor
