/- Plain words on names of accounts: parts, good names, what stands above a name; no program. -/
import Derived.Lib.SplitLaws
import Derived.Lib.Index
namespace Go.Proofs.YthbiepgpflpfoaaDoor
open Go.Lib
set_option linter.unusedVariables false
set_option linter.unusedSimpArgs false

/-- The pieces of a list between the bytes c. -/
def splitC (c : UInt8) : List UInt8 → List (List UInt8)
  | [] => [[]]
  | x :: xs => if x = c then [] :: splitC c xs else match splitC c xs with
    | [] => [[x]]
    | p :: ps => (x :: p) :: ps

theorem splitC_ne (c : UInt8) (l : List UInt8) : splitC c l ≠ [] := by
  cases l with
  | nil => simp [splitC]
  | cons x xs =>
    unfold splitC
    split
    · simp
    · split <;> simp

def upP (c : UInt8) : Prop := 65 ≤ c.toNat ∧ c.toNat ≤ 90
def nameP (c : UInt8) : Prop := (65 ≤ c.toNat ∧ c.toNat ≤ 90) ∨ (97 ≤ c.toNat ∧ c.toNat ≤ 122) ∨ (48 ≤ c.toNat ∧ c.toNat ≤ 57) ∨ c.toNat = 45
instance (c : UInt8) : Decidable (upP c) := by unfold upP; infer_instance
instance (c : UInt8) : Decidable (nameP c) := by unfold nameP; infer_instance

/-- Can it be a part of a name? -/
def partB (l : List UInt8) : Bool := decide (l.length ≤ 16) && (match l with | [] => false | c :: _ => decide (upP c)) && l.all fun c => decide (nameP c)

/-- A good name. -/
def goodB (l : List UInt8) : Bool := decide (l.length ≤ 102) && (decide ((splitC 58 l).length ≤ 6) && !(splitC 58 l).any fun p => !partB p)

theorem splitC_length (c : UInt8) (l : List UInt8) : (splitC c l).length = l.count c + 1 := by
  induction l with
  | nil => rfl
  | cons x xs ih =>
    unfold splitC
    by_cases h : x = c
    · rw [if_pos h, List.length_cons, ih, h, List.count_cons_self]
    · rw [if_neg h, List.count_cons_of_ne h]
      cases hp : splitC c xs with
      | nil => exact absurd hp (splitC_ne c xs)
      | cons p ps => rw [hp] at ih; simpa using ih

theorem index_one_cons (c x : UInt8) (xs : List UInt8) : index (x :: xs) [c] = if c = x then 0 else if index xs [c] = -1 then -1 else index xs [c] + 1 := by
  have e : index (x :: xs) [c] = if List.isPrefixOf [c] (x :: xs) then 0 else if index xs [c] == -1 then -1 else index xs [c] + 1 := rfl
  rw [e]
  by_cases h : c = x
  · subst h; simp [List.isPrefixOf]
  · simp [List.isPrefixOf, h]

theorem splitK_one (c : UInt8) : ∀ s : List UInt8, splitK [c] 0 (count s [c]) s = splitC c s
  | [] => by
    have : count [] [c] = 0 := by rw [count_one]; rfl
    rw [this]; rfl
  | x :: xs => by
    have ih := splitK_one c xs
    by_cases h : x = c
    · subst h
      rw [count_cons_eq, Nat.add_comm]
      unfold splitK splitC
      rw [index_one_cons, if_pos rfl, if_pos rfl]
      simp [ih]
    · have hn : ¬ c = x := fun e => h e.symm
      rw [count_cons_ne _ _ _ h]
      unfold splitC
      rw [if_neg h, ← ih]
      cases hk : count xs [c] with
      | zero => rfl
      | succ k =>
        have hi : index xs [c] ≠ -1 := fun e => by
          have := count_miss (sub := [c]) e
          omega
        have hg := index_ge xs [c]
        unfold splitK
        rw [index_one_cons, if_neg hn, if_neg hi]
        have h1 : ¬ (index xs [c] + 1 == -1) = true := fun e => by have := beq_iff_eq.1 e; omega
        have h2 : ¬ (index xs [c] == -1) = true := fun e => by have := beq_iff_eq.1 e; omega
        rw [if_neg h1, if_neg h2]
        have e1 : (index xs [c] + 1).toNat = (index xs [c]).toNat + 1 := by omega
        rw [e1]
        simp

theorem splitB_one (c : UInt8) (s : ByteArray) : (splitB ⟨#[c]⟩ 0 (countB s ⟨#[c]⟩) s).map (·.data.toList) = splitC c s.data.toList := by
  rw [splitB_data]
  exact splitK_one c s.data.toList

theorem partB_iff (l : List UInt8) : partB l = true ↔ (l.length ≤ 16 ∧ (∃ c r, l = c :: r ∧ upP c) ∧ ∀ c ∈ l, nameP c) := by
  unfold partB
  cases l with
  | nil => simp
  | cons c r => simp [and_assoc]
end Go.Proofs.YthbiepgpflpfoaaDoor
