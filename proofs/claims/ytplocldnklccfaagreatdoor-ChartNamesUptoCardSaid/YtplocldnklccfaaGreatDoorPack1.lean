/- Words on memory: what may have changed between two worlds; maps keyed by strings as lists of pairs; Small words that all walks of this seat use; Plain words on names of accounts: parts, good names, what stands above a name; no program; Contracts of the functions on names: part, Good; the world is as it was, or has grown; What a chart is, in plain words, and how it lies in memory; Rows of one's own: a cell written, a beginning of one, its cells; An iterator that walks a structure in memory and holds loops over iterators of its own; a law for loops over such. No function of the program is named; May and Find of a chart; below: a list of accounts, each with all that is below it behind it; A row of things that can be read; append of one (parts of XBookMem and XAppRow, for seats without the books); daybookkeep: pages of lists that are kept: how one lies in memory; daybookkeep: the pages of a book, in memory; append onto a row of one's own: where the new row lies in a new block, all older blocks are as they were. -/
import Derived.Below
import Derived.WideMake
import Derived.Maps.OwnOps
import Derived.Tactics2
import Derived.WalkKit
import Derived.Deep.Draws
import Derived.RangeFuncRecord
import Derived.MapKept
import Derived.Test.YtplocldnklccfaaGreatDoorProg
import Derived.WalkSpells
import Derived.WalkLawsBesides
import Derived.LoopTactic
import Derived.Outline
import Derived.Lib.Hide
import Derived.Lib.SplitLaws
import Derived.Lib.Index
import Derived.Lib.LastIndexByte
import Derived.RangeFuncNested
import Derived.RangeFuncBound
import Derived.RangeFuncCalls
import Derived.RangeFuncLeaves
import Derived.RangeFuncWrites
import Derived.Shelf.Abstract
import Derived.Shelf.RegionOpen
import Derived.OwnWalkIn
import Derived.TacticsInMore
import Derived.LoopNIn
import Derived.LoopIn
import Derived.Deep.AppendLies
import Derived.Laws.AppendOwnNone
import Derived.Deep.RegionHeld3
namespace Go.Proofs.YtplocldnklccfaaGreatDoor
open Go.RowKit
set_option linter.unusedVariables false
set_option linter.unusedSimpArgs false

/-- Of what was there, blocks of F alone may have turned. -/
structure Ch (F : Nat → Prop) (w w' : World) : Prop where
  os : w'.os = w.os
  tape : w'.tape = w.tape
  output : w'.output = w.output
  size : w.heap.size ≤ w'.heap.size
  block : ∀ k, k < w.heap.size → ¬ F k → w'.heap[k]? = w.heap[k]?

theorem Ch.refl (F : Nat → Prop) (w : World) : Ch F w w := ⟨rfl, rfl, rfl, Nat.le_refl _, fun _ _ _ => rfl⟩
theorem Ch.mono {F G : Nat → Prop} {w w' : World} (h : Ch F w w') (hg : ∀ k, F k → G k) : Ch G w w' := ⟨h.os, h.tape, h.output, h.size, fun k hk hn => h.block k hk fun hf => hn (hg k hf)⟩
theorem Ch.trans {F G : Nat → Prop} {a b c : World} (h : Ch F a b) (k : Ch G b c) (hG : ∀ i, G i → F i ∨ a.heap.size ≤ i) : Ch F a c :=
  ⟨k.os.trans h.os, k.tape.trans h.tape, k.output.trans h.output, Nat.le_trans h.size k.size, fun i hi hn =>
    (k.block i (Nat.lt_of_lt_of_le hi h.size) fun hg => by rcases hG i hg with h | h; exact hn h; omega).trans (h.block i hi hn)⟩
theorem Ch.trans' {F : Nat → Prop} {a b c : World} (h : Ch F a b) (k : Ch F b c) : Ch F a c := h.trans k fun _ h => .inl h
theorem Ch.drew {F : Nat → Prop} {a w : World} (h : Ch F a w) : Ch F a w.drew := ⟨h.os, h.tape, h.output, h.size, h.block⟩
theorem Ch.drewN {F : Nat → Prop} {a w : World} (h : Ch F a w) (n : Nat) : Ch F a (w.drewN n) := ⟨h.os, h.tape, h.output, h.size, h.block⟩
theorem Ch.alloc {F : Nat → Prop} {a w : World} (h : Ch F a w) (o : Obj) : Ch F a (w.alloc o) :=
  h.trans' ⟨rfl, rfl, rfl, by simp, fun k hk _ => Below.heap_alloc _ _ _ hk⟩
theorem Ch.setCell {F : Nat → Prop} {a w : World} (h : Ch F a w) {p : Addr} (hp : F p.block ∨ a.heap.size ≤ p.block) (u : Value) : Ch F a (w.setCell p u) :=
  h.trans (G := fun k => k = p.block) ⟨rfl, rfl, rfl, by simp [World.setCell], fun k hk hn => Below.heap_setCell _ _ _ _ hn⟩ fun i hi => by subst hi; exact hp
theorem Ch.putObj {F : Nat → Prop} {a w : World} (h : Ch F a w) {b : Nat} (hp : F b ∨ a.heap.size ≤ b) (o : Obj) : Ch F a (w.putObj b o) :=
  h.trans (G := fun k => k = b) ⟨rfl, rfl, rfl, by simp [World.putObj], fun k hk hn => by simp [World.putObj, Array.getElem?_setIfInBounds, Ne.symm hn]⟩ fun i hi => by subst hi; exact hp
theorem Ch.below {F : Nat → Prop} {a w w' : World} (h : Ch F a w) (k : Below w.heap.size w w') : Ch F a w' :=
  h.trans' ⟨k.os, k.tape, k.output, k.size, fun i hi _ => k.block i hi⟩
theorem Ch.of_below {F : Nat → Prop} {w w' : World} (k : Below w.heap.size w w') : Ch F w w' := (Ch.refl F w).below k
theorem Ch.grown {F : Nat → Prop} {a w w' : World} {row : Option Nat} (h : Ch F a w) (hg : w.grownBy w' row) (hr : ∀ k, row = some k → F k ∨ a.heap.size ≤ k) : Ch F a w' :=
  h.trans (G := fun k => row = some k) ⟨hg.os, hg.tape, hg.output, hg.size, fun k hk hn => hg.block k hk fun e => hn e.symm⟩ hr
theorem Ch.toBelow {F : Nat → Prop} {w w' : World} (h : Ch F w w') {B : Nat} (hB : B ≤ w.heap.size) (hF : ∀ k, F k → B ≤ k) : Below B w w' :=
  ⟨h.os, h.tape, h.output, h.size, fun k hk => h.block k (by omega) fun hf => by have := hF k hf; omega⟩

theorem heap_lt {w : World} {k : Nat} {o : Obj} (h : w.heap[k]? = some o) : k < w.heap.size := (Array.getElem?_eq_some_iff.1 h).1
theorem heap_setCell_same {w : World} {b i : Nat} {cs : Array Value} {t : TypeId} {fr : Nat × Nat} (h : w.heap[b]? = some (.cells cs t fr)) (v : Value) :
    (w.setCell ⟨b, i, none⟩ v).heap[b]? = some (.cells (cs.setIfInBounds i v) t fr) := by
  simp [World.setCell, Array.getElem?_modify, h]
theorem heap_putObj_same {w : World} {b : Nat} {o : Obj} (h : w.heap[b]? = some o) (o' : Obj) : (w.putObj b o').heap[b]? = some o' := by
  have := heap_lt h
  simp [World.putObj, Array.getElem?_setIfInBounds, this]
theorem heap_putObj_other {w : World} {b k : Nat} (o' : Obj) (h : k ≠ b) : (w.putObj b o').heap[k]? = w.heap[k]? := by
  simp [World.putObj, Array.getElem?_setIfInBounds, Ne.symm h]

/-- A map keyed by strings: its entries as pairs, in the order in which they came. -/
def StrMap (w : World) (b : Nat) (ps : List (ByteArray × Value)) : Prop :=
  ∃ (es : Array MapEntry) (clock : Nat), w.heap[b]? = some (.map es clock) ∧ es.toList.map (fun e => (e.key, e.val)) = ps.map fun p => (Value.string p.1, p.2)

theorem StrMap.lt {w : World} {b : Nat} {ps : List (ByteArray × Value)} (h : StrMap w b ps) : b < w.heap.size := by
  obtain ⟨_, _, h, _⟩ := h
  exact heap_lt h
theorem StrMap.keep {w w' : World} {b : Nat} {ps : List (ByteArray × Value)} (h : StrMap w b ps) (he : w'.heap[b]? = w.heap[b]?) : StrMap w' b ps := by
  obtain ⟨es, c, h1, h2⟩ := h
  exact ⟨es, c, he.trans h1, h2⟩

theorem beq_bytes (a b : ByteArray) : (a == b) = decide (a = b) := by
  cases a with
  | mk x => cases b with
    | mk y =>
      show (x == y) = _
      by_cases h : x = y
      · subst h; simp
      · simp [h]

/-- What a list of pairs gives at a key. -/
def getP (k : ByteArray) : List (ByteArray × Value) → Option Value
  | [] => none
  | p :: ps => if k = p.1 then some p.2 else getP k ps

theorem getP_append (k : ByteArray) (ps qs : List (ByteArray × Value)) : getP k (ps ++ qs) = (getP k ps).or (getP k qs) := by
  induction ps with
  | nil => rfl
  | cons p ps ih =>
    simp only [List.cons_append, getP]
    by_cases h : k = p.1
    · simp [h]
    · simp [h, ih]

theorem findNow_str (k : ByteArray) : ∀ (ps : List (ByteArray × Value)) (es : List MapEntry) (i : Nat), es.map (fun e => (e.key, e.val)) = ps.map (fun p => (Value.string p.1, p.2)) →
    ∃ r, Instr.findNow .string (.string k) es i = some r ∧ r.map (·.2) = getP k ps
  | [], es, i, h => by
    have : es = [] := by simpa using h
    subst this
    exact ⟨none, rfl, rfl⟩
  | p :: ps, [], i, h => by simp at h
  | p :: ps, e :: es, i, h => by
    simp only [List.map_cons, List.cons.injEq, Prod.mk.injEq] at h
    obtain ⟨⟨h1, h2⟩, h3⟩ := h
    obtain ⟨r, hr, hl⟩ := findNow_str k ps es (i + 1) h3
    by_cases hk : k = p.1
    · refine ⟨some (i, e.val), ?_, ?_⟩
      · simp [Instr.findNow, h1, Instr.sameNow, beq_bytes, hk]
      · simp [getP, hk, h2]
    · refine ⟨r, ?_, ?_⟩
      · simp [Instr.findNow, h1, Instr.sameNow, beq_bytes, hk, hr]
      · rw [hl]
        simp [getP, hk]

section
variable {P : Program}
theorem checkKey_str {K : TypeId} (hK : P.underlying K = some .string) (e : Bool) (k : ByteArray) (w : World) : (Instr.checkKey e 10000 K (.string k)).run P w = .ok () w :=
  MapKept.run_checkKey hK (d := .string) (k := .string k) trivial e 9999

theorem run_lookup_strmap {w : World} {b : Nat} {ps : List (ByteArray × Value)} (h : StrMap w b ps) {T K E : TypeId} (hT : P.underlying T = some (.map K E)) (hK : P.underlying K = some .string)
    {z : Value} (hz : ∀ w, (zeroValue E).run P w = .ok z w) (k : ByteArray) :
    Sem.run P (Instr.lookup T (.map (some b)) (.string k) false) w = .ok ((getP k ps).getD z) w := by
  obtain ⟨es, c, h1, h2⟩ := h
  obtain ⟨r, hr, hl⟩ := findNow_str k ps es.toList 0 h2
  have hck := fun e => checkKey_str hK e k w
  unfold Instr.lookup
  cases r with
  | none =>
    have hl' : getP k ps = none := by simpa using hl.symm
    simp [run_underlying hT, run_underlying hK, MapKept.run_getObj_map h1, hck, Instr.findKey, hr, hl', hz]
  | some x =>
    have hl' : getP k ps = some x.2 := by simpa using hl.symm
    simp [run_underlying hT, run_underlying hK, MapKept.run_getObj_map h1, hck, Instr.findKey, hr, hl']

theorem run_update_strmap {w : World} {b : Nat} {ps : List (ByteArray × Value)} (h : StrMap w b ps) {T K E : TypeId} (hT : P.underlying T = some (.map K E)) (hK : P.underlying K = some .string)
    (k : ByteArray) (v : Value) (hnew : getP k ps = none) :
    ∃ o, Sem.run P (Instr.mapUpdate T (.map (some b)) (.string k) v) w = .ok () (w.putObj b o) ∧ StrMap (w.putObj b o) b (ps ++ [(k, v)]) := by
  obtain ⟨es, c, h1, h2⟩ := h
  obtain ⟨r, hr, hl⟩ := findNow_str k ps es.toList 0 h2
  rw [hnew] at hl
  have : r = none := by simpa using hl
  subst this
  have hck := fun e => checkKey_str hK e k w
  refine ⟨.map (es.push { key := .string k, val := v, born := c }) (c + 1), ?_, es.push { key := .string k, val := v, born := c }, c + 1, heap_putObj_same h1 _, ?_⟩
  · unfold Instr.mapUpdate
    simp [run_underlying hT, run_underlying hK, MapKept.run_getObj_map h1, hck, Instr.findKey, hr, World.putObj, MapKept.run_setObj_map _ h1]
  · simp [h2]
end
end Go.Proofs.YtplocldnklccfaaGreatDoor
namespace Go.Proofs.YtplocldnklccfaaGreatDoor
open Go.RowKit
theorem ret_bool {a b : Bool} (h : a = b) : Ending.returned (.bool a) = .returned (.bool b) := by rw [h]
theorem ret_int {k : IntKind} {a b : Int} (h : a = b) : Ending.returned (.int k a) = .returned (.int k b) := by rw [h]
theorem ret_str {a b : ByteArray} (h : a = b) : Ending.returned (.string a) = .returned (.string b) := by rw [h]
theorem data_len (s : ByteArray) : s.data.toList.length = s.size := by rw [Array.length_toList]; rfl
theorem data_get (s : ByteArray) (k : Nat) (h : k < s.size) : s.data.toList[k]'(by rw [data_len]; exact h) = s[k] := rfl
end Go.Proofs.YtplocldnklccfaaGreatDoor
namespace Go.Proofs.YtplocldnklccfaaGreatDoor
open Go.Lib
set_option linter.unusedVariables false
set_option linter.unusedSimpArgs false

/-- The pieces of a list between the bytes c. -/
def splitC (c : UInt8) : List UInt8 → List (List UInt8)
  | [] => [[]]
  | x :: xs => if x = c then [] :: splitC c xs else match splitC c xs with
    | [] => [[x]]
    | p :: ps => (x :: p) :: ps

theorem splitC_ne (c : UInt8) (l : List UInt8) : splitC c l ≠ [] := by
  cases l with
  | nil => simp [splitC]
  | cons x xs =>
    unfold splitC
    split
    · simp
    · split <;> simp

def upP (c : UInt8) : Prop := 65 ≤ c.toNat ∧ c.toNat ≤ 90
def nameP (c : UInt8) : Prop := (65 ≤ c.toNat ∧ c.toNat ≤ 90) ∨ (97 ≤ c.toNat ∧ c.toNat ≤ 122) ∨ (48 ≤ c.toNat ∧ c.toNat ≤ 57) ∨ c.toNat = 45
instance (c : UInt8) : Decidable (upP c) := by unfold upP; infer_instance
instance (c : UInt8) : Decidable (nameP c) := by unfold nameP; infer_instance

/-- Can it be a part of a name? -/
def partB (l : List UInt8) : Bool := decide (l.length ≤ 16) && (match l with | [] => false | c :: _ => decide (upP c)) && l.all fun c => decide (nameP c)

/-- A good name. -/
def goodB (l : List UInt8) : Bool := decide (l.length ≤ 102) && (decide ((splitC 58 l).length ≤ 6) && !(splitC 58 l).any fun p => !partB p)

theorem splitC_length (c : UInt8) (l : List UInt8) : (splitC c l).length = l.count c + 1 := by
  induction l with
  | nil => rfl
  | cons x xs ih =>
    unfold splitC
    by_cases h : x = c
    · rw [if_pos h, List.length_cons, ih, h, List.count_cons_self]
    · rw [if_neg h, List.count_cons_of_ne h]
      cases hp : splitC c xs with
      | nil => exact absurd hp (splitC_ne c xs)
      | cons p ps => rw [hp] at ih; simpa using ih

theorem index_one_cons (c x : UInt8) (xs : List UInt8) : index (x :: xs) [c] = if c = x then 0 else if index xs [c] = -1 then -1 else index xs [c] + 1 := by
  have e : index (x :: xs) [c] = if List.isPrefixOf [c] (x :: xs) then 0 else if index xs [c] == -1 then -1 else index xs [c] + 1 := rfl
  rw [e]
  by_cases h : c = x
  · subst h; simp [List.isPrefixOf]
  · simp [List.isPrefixOf, h]

theorem splitK_one (c : UInt8) : ∀ s : List UInt8, splitK [c] 0 (count s [c]) s = splitC c s
  | [] => by
    have : count [] [c] = 0 := by rw [count_one]; rfl
    rw [this]; rfl
  | x :: xs => by
    have ih := splitK_one c xs
    by_cases h : x = c
    · subst h
      rw [count_cons_eq, Nat.add_comm]
      unfold splitK splitC
      rw [index_one_cons, if_pos rfl, if_pos rfl]
      simp [ih]
    · have hn : ¬ c = x := fun e => h e.symm
      rw [count_cons_ne _ _ _ h]
      unfold splitC
      rw [if_neg h, ← ih]
      cases hk : count xs [c] with
      | zero => rfl
      | succ k =>
        have hi : index xs [c] ≠ -1 := fun e => by
          have := count_miss (sub := [c]) e
          omega
        have hg := index_ge xs [c]
        unfold splitK
        rw [index_one_cons, if_neg hn, if_neg hi]
        have h1 : ¬ (index xs [c] + 1 == -1) = true := fun e => by have := beq_iff_eq.1 e; omega
        have h2 : ¬ (index xs [c] == -1) = true := fun e => by have := beq_iff_eq.1 e; omega
        rw [if_neg h1, if_neg h2]
        have e1 : (index xs [c] + 1).toNat = (index xs [c]).toNat + 1 := by omega
        rw [e1]
        simp

theorem splitB_one (c : UInt8) (s : ByteArray) : (splitB ⟨#[c]⟩ 0 (countB s ⟨#[c]⟩) s).map (·.data.toList) = splitC c s.data.toList := by
  rw [splitB_data]
  exact splitK_one c s.data.toList

theorem partB_iff (l : List UInt8) : partB l = true ↔ (l.length ≤ 16 ∧ (∃ c r, l = c :: r ∧ upP c) ∧ ∀ c ∈ l, nameP c) := by
  unfold partB
  cases l with
  | nil => simp
  | cons c r => simp [and_assoc]
end Go.Proofs.YtplocldnklccfaaGreatDoor
namespace Go.Proofs.YtplocldnklccfaaGreatDoor
open Go.RowKit
set_option linter.unusedVariables false
set_option linter.unusedSimpArgs false

theorem part_false (s : ByteArray) (h : ¬ (1 ≤ s.size ∧ s.size ≤ 16)) : partB s.data.toList = false := by
  rw [Bool.eq_false_iff]
  intro e
  obtain ⟨h1, ⟨c, r, h2, _⟩, _⟩ := (partB_iff _).1 e
  rw [data_len] at h1
  have := congrArg List.length h2
  rw [data_len] at this
  simp at this
  omega
theorem part_false_up (s : ByteArray) (h1 : 1 ≤ s.size) (h : ¬ upP s[0]) : partB s.data.toList = false := by
  rw [Bool.eq_false_iff]
  intro e
  obtain ⟨_, ⟨c, r, h2, h3⟩, _⟩ := (partB_iff _).1 e
  have e0 := data_get s 0 h1
  simp only [h2, List.getElem_cons_zero] at e0
  subst e0
  exact h h3
theorem part_false_name (s : ByteArray) (k : Nat) (hk : k < s.size) (h : ¬ nameP s[k]) : partB s.data.toList = false := by
  rw [Bool.eq_false_iff]
  intro e
  obtain ⟨_, _, h3⟩ := (partB_iff _).1 e
  apply h
  rw [← data_get s k hk]
  exact h3 _ (List.getElem_mem _)
theorem part_true (s : ByteArray) (h1 : 1 ≤ s.size) (h2 : s.size ≤ 16) (hu : upP s[0]) (h : ∀ k (hk : k < s.size), nameP s[k]) : partB s.data.toList = true := by
  rw [partB_iff, data_len]
  refine ⟨h2, ?_, ?_⟩
  · have hl : 0 < s.data.toList.length := by rw [data_len]; exact h1
    refine ⟨s.data.toList[0], s.data.toList.drop 1, ?_, hu⟩
    rw [List.getElem_cons_drop]; rfl
  · intro c hc
    obtain ⟨k, hk, rfl⟩ := List.getElem_of_mem hc
    exact h k (by rw [data_len] at hk; exact hk)

structure PartInv (s : ByteArray) (i : Value) (k : Nat) : Prop where
  le : k ≤ s.size
  at_ : i = .int .i64 (k : Int)
  all : ∀ j (hj : j < s.size), j < k → nameP s[j]

set_option maxHeartbeats 2000000 in
theorem part_any (s : ByteArray) (w : World) (hm : s.size ≤ maxLen) :
    Calls Tryz.prog 24 #[.string s] w fun e w' => e = .returned (.bool (partB s.data.toList)) ∧ w = w' := by
  unfold maxLen at hm
  by_cases hs : 1 ≤ s.size ∧ s.size ≤ 16
  · obtain ⟨h1, h2⟩ := hs
    have h' : ¬ ((s.size : Int) < 1) := by omega
    have h'' : ¬ ((16 : Int) < s.size) := by omega
    by_cases hu : upP s[0]
    · have HU := Lib.hid hu
      unfold upP at hu
      have ha : 65 ≤ ((s[0]).toNat : Int) := by omega
      have hb : ((s[0]).toNat : Int) ≤ 90 := by omega
      clear hu
      obtain ⟨R, hR⟩ : ∃ R : Bool, R = partB s.data.toList := ⟨_, rfl⟩
      rw [← hR]
      have HR := Lib.hid hR
      clear hR
      go_enter Tryz.func24, Tryz.ntmps24
      go_wp2
      go_loop [25] (fun i => ∃ k : Nat, PartInv s i k) (fun i => s.size - (intOf i).toNat)
      case atStart => exact ⟨0, Nat.zero_le _, rfl, fun _ _ h => absurd h (by omega)⟩
      case round =>
        obtain ⟨k, hk, rfl, hall⟩ := hrel
        have HA := Lib.hid hall
        clear hall
        by_cases hlt : k < s.size
        · have hc : (65 ≤ (s[k].toNat : Int) ∧ (s[k].toNat : Int) ≤ 90) ∨ (97 ≤ (s[k].toNat : Int) ∧ (s[k].toNat : Int) ≤ 122) ∨ (48 ≤ (s[k].toNat : Int) ∧ (s[k].toNat : Int) ≤ 57) ∨ (s[k].toNat : Int) = 45 ∨ ¬ nameP s[k] := by
            unfold nameP; omega
          have fin : nameP s[k] → PartInv s (.int .i64 ((k : Int) + 1)) (k + 1) := fun hn => ⟨by omega, by simp, fun j hj hjk => by
            by_cases e : j = k
            · subst e; exact hn
            · exact HA.out j hj (by omega)⟩
          have FIN := Lib.hid fin
          clear fin
          rcases hc with ⟨a, b⟩ | ⟨a, b⟩ | ⟨a, b⟩ | a | hno
          · have hn : Hid (nameP s[k]) := by show nameP _; unfold nameP; omega
            go_wp2
            go_round
            case rel => exact ⟨k + 1, FIN.out hn.out⟩
            case measure => simp [intOf]; omega
          · have hn : Hid (nameP s[k]) := by show nameP _; unfold nameP; omega
            go_wp2
            go_round
            case rel => exact ⟨k + 1, FIN.out hn.out⟩
            case measure => simp [intOf]; omega
          · have hn : Hid (nameP s[k]) := by show nameP _; unfold nameP; omega
            go_wp2
            go_round
            case rel => exact ⟨k + 1, FIN.out hn.out⟩
            case measure => simp [intOf]; omega
          · have hn : Hid (nameP s[k]) := by show nameP _; unfold nameP; omega
            go_wp2
            go_round
            case rel => exact ⟨k + 1, FIN.out hn.out⟩
            case measure => simp [intOf]; omega
          · have hf := part_false_name s k hlt hno
            have HF : Hid (R = false) := by show R = false; rw [HR.out, hf]
            clear hf
            have hb : ((s[k].toNat : Int) == 45) = false := by
              rw [beq_eq_false_iff_ne]
              intro e
              exact hno (by unfold nameP; omega)
            have hno' : (s[k].toNat : Int) < 48 ∨ (57 < (s[k].toNat : Int) ∧ (s[k].toNat : Int) < 65) ∨ (90 < (s[k].toNat : Int) ∧ (s[k].toNat : Int) < 97) ∨ 122 < (s[k].toNat : Int) := by
              unfold nameP at hno; omega
            clear hno
            rcases hno' with a | ⟨a, b⟩ | ⟨a, b⟩ | a
            all_goals
              go_wp2
              all_goals first | (go_ret; rw [HF.out]; exact ⟨rfl, rfl⟩) | (exfalso; simp at *; omega)
        · have ht := part_true s h1 h2 HU.out (fun j hj => HA.out j hj (by omega))
          have HT : Hid (R = true) := by show R = true; rw [HR.out, ht]
          clear ht
          go_wp2
          go_ret
          rw [HT.out]
          exact ⟨rfl, rfl⟩
    · rw [part_false_up s h1 hu]
      unfold upP at hu
      by_cases ha : ((s[0]).toNat : Int) < 65
      · clear hu
        go_enter Tryz.func24, Tryz.ntmps24
        go_wp2
        go_ret
        exact ⟨rfl, rfl⟩
      · have hb : 90 < ((s[0]).toNat : Int) := by omega
        clear hu
        go_enter Tryz.func24, Tryz.ntmps24
        go_wp2
        go_ret
        exact ⟨rfl, rfl⟩
  · rw [part_false s hs]
    by_cases h : (s.size : Int) < 1
    · go_enter Tryz.func24, Tryz.ntmps24
      go_wp2
      go_ret
      exact ⟨rfl, rfl⟩
    · have h' : ((16 : Int) < s.size) := by omega
      go_enter Tryz.func24, Tryz.ntmps24
      go_wp2
      go_ret
      exact ⟨rfl, rfl⟩
end Go.Proofs.YtplocldnklccfaaGreatDoor
namespace Go.Proofs.YtplocldnklccfaaGreatDoor
open Go.RowKit
set_option linter.unusedVariables false
set_option linter.unusedSimpArgs false

structure Acct where
  name : ByteArray
  typ : Int
  opened : Int
  closed : Bool

/-- What stands above a name. -/
def parentF (n : ByteArray) : Option ByteArray :=
  if goodB n.data.toList = true ∧ 0 ≤ Lib.lastIndexByte n 58 then some (n.extract 0 (Lib.lastIndexByte n 58).toNat) else none

def findA (L : List Acct) (n : ByteArray) : Option Acct := L.find? fun a => decide (a.name = n)
def kidsA (L : List Acct) (n : ByteArray) : List Acct := L.filter fun a => decide (parentF a.name = some n)
def rootsA (L : List Acct) : List Acct := L.filter fun a => decide (parentF a.name = none)

theorem findA_some {L : List Acct} {n : ByteArray} {a : Acct} (h : findA L n = some a) : a ∈ L ∧ a.name = n := by
  unfold findA at h
  exact ⟨List.mem_of_find?_eq_some h, by simpa using List.find?_some h⟩

def ptrV (b : Nat) : Value := .pointer (some ⟨b, 0, none⟩)

/-- How a chart lies in memory: mb the map's block, rv the list of roots, nb an account's block, kv the list of those right below it, ps the map's entries; F holds all blocks of the chart. -/
structure CR (w : World) (F : Nat → Prop) (cb : Nat) (L : List Acct) (mb : Nat) (rv : Value) (nb : ByteArray → Nat) (kv : ByteArray → Value) (ps : List (ByteArray × Value)) : Prop where
  hC : w.heap[cb]? = some (.cells #[.map (some mb), rv] 148 (0, 0))
  hM : StrMap w mb ps
  hps : ∀ k, getP k ps = (findA L k).map fun a => ptrV (nb a.name)
  hlen : ps.length = L.length
  le : L.length ≤ 100
  hN : ∀ a ∈ L, w.heap[nb a.name]? = some (.cells #[.string a.name, .int .i64 a.typ, .int .i64 a.opened, .bool a.closed, kv a.name] 236 (0, 0))
  hK : ∀ a ∈ L, w.ownsRow 0 234 1 (kv a.name) (kidsA L a.name).length ((kidsA L a.name).map fun b => ptrV (nb b.name))
  hR : w.ownsRow 0 234 1 rv (rootsA L).length ((rootsA L).map fun b => ptrV (nb b.name))
  fC : F cb
  fM : F mb
  fN : ∀ a ∈ L, F (nb a.name)
  fK : ∀ a ∈ L, ∀ k, (kv a.name).ownBlock = some k → F k
  fR : ∀ k, rv.ownBlock = some k → F k
  inj : ∀ a ∈ L, ∀ b ∈ L, nb a.name = nb b.name → a.name = b.name
  dK : ∀ a ∈ L, ∀ b ∈ L, a.name ≠ b.name → ∀ k, (kv a.name).ownBlock = some k → (kv b.name).ownBlock ≠ some k
  dR : ∀ a ∈ L, ∀ k, (kv a.name).ownBlock = some k → rv.ownBlock ≠ some k

structure ChartAt (w : World) (F : Nat → Prop) (cb : Nat) (L : List Acct) : Prop where
  ex : ∃ mb rv nb kv ps, CR w F cb L mb rv nb kv ps

theorem ownsRow_keep {w w' : World} {B e size n : Nat} {v : Value} {xs : List Value} (h : w.ownsRow B e size v n xs) (hk : ∀ k, v.ownBlock = some k → w'.heap[k]? = w.heap[k]?) : w'.ownsRow B e size v n xs := by
  refine ⟨h.1, ?_⟩
  rcases h.2 with hn | ⟨g, cap, cur, rfl, hb, hg, r⟩
  · exact .inl hn
  · exact .inr ⟨g, cap, cur, rfl, hb, (hk g rfl).trans hg, r⟩

/-- What is not touched lives on. -/
theorem CR.keep {w w' : World} {F : Nat → Prop} {cb mb : Nat} {L : List Acct} {rv : Value} {nb : ByteArray → Nat} {kv : ByteArray → Value} {ps : List (ByteArray × Value)}
    (h : CR w F cb L mb rv nb kv ps) (hk : ∀ k, F k → k < w.heap.size → w'.heap[k]? = w.heap[k]?) : CR w' F cb L mb rv nb kv ps where
  hC := (hk cb h.fC (heap_lt h.hC)).trans h.hC
  hM := h.hM.keep (hk mb h.fM h.hM.lt)
  hps := h.hps
  hlen := h.hlen
  le := h.le
  hN := fun a ha => (hk _ (h.fN a ha) (heap_lt (h.hN a ha))).trans (h.hN a ha)
  hK := fun a ha => ownsRow_keep (h.hK a ha) fun k e => hk k (h.fK a ha k e) ((h.hK a ha).lt k e).2
  hR := ownsRow_keep h.hR fun k e => hk k (h.fR k e) (h.hR.lt k e).2
  fC := h.fC
  fM := h.fM
  fN := h.fN
  fK := h.fK
  fR := h.fR
  inj := h.inj
  dK := h.dK
  dR := h.dR
theorem ChartAt.keep {w w' : World} {F : Nat → Prop} {cb : Nat} {L : List Acct} (h : ChartAt w F cb L) (hk : ∀ k, F k → k < w.heap.size → w'.heap[k]? = w.heap[k]?) : ChartAt w' F cb L := by
  obtain ⟨mb, rv, nb, kv, ps, h⟩ := h
  exact ⟨mb, rv, nb, kv, ps, h.keep hk⟩
theorem ChartAt.ch {w w' : World} {F G : Nat → Prop} {cb : Nat} {L : List Acct} (h : ChartAt w F cb L) (hc : Ch G w w') (hd : ∀ k, F k → ¬ G k) : ChartAt w' F cb L :=
  h.keep fun k hf hl => hc.block k hl (hd k hf)
theorem ChartAt.below {w w' : World} {F : Nat → Prop} {cb : Nat} {L : List Acct} (h : ChartAt w F cb L) (hb : Below w.heap.size w w') : ChartAt w' F cb L :=
  h.keep fun k hf hl => hb.block k hl

theorem CR.lookup {w : World} {F : Nat → Prop} {cb mb : Nat} {L : List Acct} {rv : Value} {nb : ByteArray → Nat} {kv : ByteArray → Value} {ps : List (ByteArray × Value)}
    (h : CR w F cb L mb rv nb kv ps) (n : ByteArray) :
    Sem.run Tryz.prog (Instr.lookup 145 (.map (some mb)) (.string n) false) w = .ok (match findA L n with | some a => ptrV (nb a.name) | none => .pointer none) w := by
  rw [run_lookup_strmap h.hM Tryz.underlying145 Tryz.underlying9 Tryz.zeroValue234 n, h.hps n]
  cases findA L n <;> rfl
end Go.Proofs.YtplocldnklccfaaGreatDoor
namespace Go.Proofs.YtplocldnklccfaaGreatDoor
open Go.RowKit
set_option linter.unusedVariables false
set_option linter.unusedSimpArgs false

section
variable {w : World} {B e s n : Nat} {v : Value} {xs : List Value}
/-- A row of one's own that has a block: its form. -/
theorem own_block (h : w.ownsRow B e s v n xs) {g : Nat} (hg : v.ownBlock = some g) : ∃ cap cur, v = .slice (some ⟨g, 0, none⟩) n cap ∧ B ≤ g ∧ w.heap[g]? = some (.cells cur e (0, 0)) ∧ n ≤ cap ∧ cap ≤ maxLen ∧ cur.size = cap * s ∧ cur.toList.take (n * s) = xs := by
  rcases h.2 with ⟨rfl, _⟩ | ⟨g', cap, cur, rfl, hb, hgg, h1, h2, h3, h4⟩
  · cases hg
  · obtain rfl : g' = g := Option.some.inj hg
    exact ⟨cap, cur, rfl, hb, hgg, h1, h2, h3, h4⟩
theorem own_set (h : w.ownsRow B e s v n xs) {g : Nat} (hg : v.ownBlock = some g) (j : Nat) (u : Value) : (w.setCell ⟨g, j, none⟩ u).ownsRow B e s v n (xs.set j u) := by
  obtain ⟨cap, cur, rfl, hb, hgg, h1, h2, h3, h4⟩ := own_block h hg
  refine ⟨by rw [List.length_set]; exact h.1, .inr ⟨g, cap, cur.setIfInBounds j u, rfl, hb, heap_setCell_same hgg u, h1, h2, by simpa using h3, ?_⟩⟩
  rw [Array.toList_setIfInBounds, List.take_set, h4]
theorem own_get (h : w.ownsRow B e s v n xs) {g : Nat} (hg : v.ownBlock = some g) (j : Nat) (hj : j < n * s) : w.cell? ⟨g, j, none⟩ = xs[j]? := by
  have hl := h.1
  have := h.cells hg j (xs[j]'(by omega)) (List.getElem?_eq_getElem (by omega))
  rw [Addr.add_lit] at this
  rw [List.getElem?_eq_getElem (by omega : j < xs.length)]
  simpa using this
theorem own_froz (h : w.ownsRow B e s v n xs) {g : Nat} (hg : v.ownBlock = some g) (j : Nat) : w.frozen? ⟨g, j, none⟩ = false := by
  obtain ⟨cap, cur, rfl, hb, hgg, _⟩ := own_block h hg
  simp [World.frozen?, hgg]
theorem own_base (h : w.ownsRow B e s v n xs) {B' : Nat} (hB : ∀ g, v.ownBlock = some g → B' ≤ g) : w.ownsRow B' e s v n xs := by
  refine ⟨h.1, ?_⟩
  rcases h.2 with h1 | ⟨g, cap, cur, rfl, hb, hgg, h1⟩
  · exact .inl h1
  · exact .inr ⟨g, cap, cur, rfl, hB g rfl, hgg, h1⟩
end
/-- The beginning of a row of one's own. -/
theorem own_head {w : World} {B e s n m c g : Nat} {xs ys : List Value} (h : w.ownsRow B e s (.slice (some ⟨g, 0, none⟩) (n + m) c) (n + m) (xs ++ ys)) (hx : xs.length = n * s) : w.ownsRow B e s (.slice (some ⟨g, 0, none⟩) n c) n xs := by
  obtain ⟨cap, cur, hv, hb, hgg, h1, h2, h3, h4⟩ := own_block h (g := g) rfl
  injection hv with _ _ hc
  subst hc
  refine ⟨hx, .inr ⟨g, c, cur, rfl, hb, hgg, by omega, h2, h3, ?_⟩⟩
  have := congrArg (List.take (n * s)) h4
  rw [List.take_take, Nat.min_eq_left (by rw [Nat.add_mul]; omega), List.take_append_of_le_length (by omega), List.take_of_length_le (l := xs) (by omega)] at this
  exact this
end Go.Proofs.YtplocldnklccfaaGreatDoor
namespace Go.Proofs.YtplocldnklccfaaGreatDoor
open Go.RowKit
set_option linter.unusedVariables false
set_option linter.unusedSimpArgs false

/-- What a round keeps: blocks below n₀; boxes of type T; from B on whatever is no cells. -/
structure Kp (T : TypeId) (n₀ B : Nat) (A A' : World) : Prop where
  bel : Below n₀ A A'
  box : ∀ k v, Boxed A k T v → Boxed A' k T v
  same : KeepsFrom B A A'

theorem Kp.refl (T : TypeId) (n₀ B : Nat) (A : World) : Kp T n₀ B A A := ⟨Below.refl _ _, fun _ _ h => h, KeepsFrom.refl _ _⟩
theorem Kp.trans {T : TypeId} {n₀ B : Nat} {X Y Z : World} (h : Kp T n₀ B X Y) (k : Kp T n₀ B Y Z) : Kp T n₀ B X Z := ⟨h.bel.trans k.bel, fun i v hi => k.box i v (h.box i v hi), h.same.trans k.same⟩
theorem Kp.mono {T : TypeId} {n₀ B B' : Nat} {X Y : World} (h : Kp T n₀ B X Y) (hB : B ≤ B') : Kp T n₀ B' X Y := ⟨h.bel, h.box, h.same.size, fun k o hk => h.same.same k o (Nat.le_trans hB hk)⟩
theorem Kp.drew {T : TypeId} {n₀ B : Nat} {X Y : World} (h : Kp T n₀ B X Y) : Kp T n₀ B X Y.drew := ⟨h.bel.drew, h.box, h.same.size, h.same.same⟩
theorem Kp.alloc {T : TypeId} {n₀ B : Nat} {X : World} (o : Obj) (h : n₀ ≤ X.heap.size) : Kp T n₀ B X (X.alloc o) :=
  ⟨(Below.refl _ _).alloc h o, fun k v hk => hk.alloc o, (KeepsOthers.alloc X o).from B⟩
/-- A block that is no cells is turned; it lies below B. -/
theorem Kp.putObj {T : TypeId} {n₀ B : Nat} {X : World} {l : Nat} {o : Obj} (o' : Obj) (h : n₀ ≤ l) (hl : X.heap[l]? = some o) (ho : o.isCells = false) (hB : l < B) : Kp T n₀ B X (X.putObj l o') :=
  ⟨(Below.refl _ _).grown (grownBy_putObj' X l o') (by have := (Array.getElem?_eq_some_iff.1 hl).1; omega) (fun k e => by cases e; exact h),
   fun k v hk => hk.kept (grownBy_putObj' X l o') (fun e => by injection e with e; subst e; rw [show X.heap[k]? = _ from hk] at hl; cases hl; cases ho),
   KeepsFrom.of_grownBy (grownBy_putObj' X l o') (fun j e => by cases e; exact hB)⟩
/-- A cell of a block of another type is turned. -/
theorem Kp.setCell {T : TypeId} {n₀ B : Nat} {X : World} {b i : Nat} (u : Value) (h : n₀ ≤ b) (hb : ∀ v, ¬ Boxed X b T v) : Kp T n₀ B X (X.setCell ⟨b, i, none⟩ u) :=
  ⟨(Below.refl _ _).setCell (p := ⟨b, i, none⟩) h u, fun k v hk => by
    have hne : k ≠ b := fun e => hb v (e ▸ hk)
    exact (Below.heap_setCell X ⟨b, i, none⟩ u k hne).trans hk, (KeepsOthers.setCell _ _ _).from B⟩

section
variable {α : Type} {F : Fence} {P : Program}

/-- What an iterator promises: all of ys come; or a round has said 'no more'. -/
def It (F : Fence) (P : Program) (g : Nat) (lb : Array Value) (T : TypeId) (enc : α → Value) (n₀ : Nat) (ys : List α) (w : World) : Prop :=
  ∀ (l : Nat) (J Jx : List α → World → Prop) (W : World), Below w.heap.size w W → OwnFrom W.heap.size J → OwnFrom W.heap.size Jx →
    (∀ m pre x W1, J pre W1 → pre ++ [x] <+: ys → YieldAt F m P l #[enc x] W1 fun e W' =>
      ((e = .returned (.bool true) ∧ J (pre ++ [x]) W') ∨ (e = .returned (.bool false) ∧ Jx (pre ++ [x]) W')) ∧ Kp T n₀ W.heap.size W1 W') →
    J [] W →
    ∀ n, CallsIn F n P g (#[.func (.yield l) #[] #[]] ++ lb) W fun e W' => (∃ v, e = .returned v) ∧ (J ys W' ∨ ∃ pre, pre <+: ys ∧ Jx pre W')

/-- How a round's body may be left. -/
def itPost (T : TypeId) (n₀ B : Nat) (I Ix : List α → World → Prop) (xs : List α) (W : World) : Exit → Act → World → Prop
  | .normal, _, W' => Kp T n₀ B W W' ∧ I xs W'
  | .ret, _, W' => Kp T n₀ B W W' ∧ Ix xs W'
  | _, _, _ => False

theorem wpIn_range_it {n : Nat} {g : Operand} {p : Tmp} {assign body : Code} {Q : Exit → Act → World → Prop} {a : Act} {w : World} {T : TypeId} {enc : α → Value} {n₀ : Nat} {ys : List α}
    (hd : F.depth = none) (hro : F.round = none) {gf : Nat} {lb : Array Value} (hg : a.eval g = .func (.func gf) #[] lb) (hFg : F.fn gf) (eg : ∀ args w, (callFunc gf args).run P w = .ok (.enter gf args) w)
    (hit : It F P gf lb T enc n₀ ys w) (hn₀ : n₀ ≤ w.heap.size)
    (I Ix : List α → World → Prop) (hI : OwnFrom w.heap.size I) (hIx : OwnFrom w.heap.size Ix) (h0 : I [] w)
    (Ax : α → Act → World → Prop) (hAx : ∀ x a', OwnFrom w.heap.size (fun (_ : Unit) W => Ax x a' W))
    (hassign : ∀ (l m : Nat) (pre : List α) (x : α) (W : World) (K : Act → World → Prop), w.heap.size ≤ W.heap.size → I pre W →
      (∀ a' W', Kp T n₀ w.heap.size W W' → I pre W' → Ax x a' W' → K a' W') →
      assign.wpIn (F.inRound l) m P (Exit.then K (fun _ _ _ => False)) { tmps := (#[p].zip #[enc x]).foldl (fun t (p, v) => t.setIfInBounds p v) a.tmps, defers := [] } W)
    (hbody : ∀ (l m : Nat) (pre : List α) (x : α) (a' : Act) (W : World), w.heap.size ≤ W.heap.size → I pre W → Ax x a' W → pre ++ [x] <+: ys → body.wpIn (F.inRound l) m P (itPost T n₀ w.heap.size I Ix (pre ++ [x]) W) a' W)
    (hdone : ∀ (D : Nat) (W : World), w.heap.size ≤ D → I ys W → W.heap[D]? = some (.deferred (some [])) → Q .normal { a with defers := { target := .collected D, args := #[] } :: a.defers } W)
    (hstop : ∀ (D : Nat) (pre : List α) (W : World), w.heap.size ≤ D → pre <+: ys → Ix pre W → W.heap[D]? = some (.deferred (some [])) → Code.ret.wpIn F n P Q { a with defers := { target := .collected D, args := #[] } :: a.defers } W) :
    (Code.rangeFunc g #[p] assign body).wpIn F n P Q a w := by
  refine wpIn_rangeFunc ?_
  intro fn hfn
  rw [hro]
  obtain ⟨rec, hrec⟩ : ∃ rec : LoopState → Option Code → Loop, rec = fun st pe => { state := st, pending := pe, fn, tmps := a.tmps, params := #[p], assign, body, defers := w.heap.size } := ⟨_, rfl⟩
  obtain ⟨W1, hW1⟩ : ∃ W1, (w.alloc (.deferred (some []))).alloc (.loop (rec .ready none)) = W1 := ⟨_, rfl⟩
  have hs1 : W1.heap.size = w.heap.size + 2 := by rw [← hW1]; simp
  have hL1 : W1.heap[w.heap.size + 1]? = some (.loop (rec .ready none)) := by
    rw [← hW1]; have := World.alloc_heap_new (w.alloc (.deferred (some []))) (.loop (rec .ready none)); rwa [World.size_alloc] at this
  have hK1 : W1.heap[w.heap.size]? = some (.deferred (some [])) := by
    rw [← hW1]; exact (Below.heap_alloc _ _ _ (by simp)).trans (World.alloc_heap_new w _)
  have hI1 : I [] W1 := by rw [← hW1]; exact hI.alloc _ (hI.alloc _ h0)
  have hb1 : Below w.heap.size w W1 := by
    rw [← hW1]; exact ((Below.refl _ w).alloc (Nat.le_refl _) _).alloc (by simp) _
  have keep : ∀ {A B : World} {row : Option Nat} {k : Nat} {o : Obj}, A.heap[k]? = some o → k < W1.heap.size → A.grownBy B row → (∀ r, row = some r → W1.heap.size ≤ r ∧ ∃ o : Obj, A.heap[r]? = some o ∧ o.isCells = false) → B.heap[k]? = some o :=
    fun hA hk hg hr => (hg.block _ (Array.getElem?_eq_some_iff.1 hA).1 (fun e => by have := (hr _ e.symm).1; omega)).trans hA
  have wide : ∀ {A B : World} {row : Option Nat}, (∀ r, row = some r → W1.heap.size ≤ r ∧ ∃ o : Obj, A.heap[r]? = some o ∧ o.isCells = false) → (∀ r, row = some r → w.heap.size ≤ r ∧ ∃ o : Obj, A.heap[r]? = some o ∧ o.isCells = false) :=
    fun hr r e => ⟨by have := (hr r e).1; omega, (hr r e).2⟩
  refine ⟨w.heap.size + 1, [{ target := .collected w.heap.size, args := #[] }], W1, { target := .fn (.func gf) lb, args := #[.func (.yield (w.heap.size + 1)) #[] #[]] }, W1, gf,
    #[.func (.yield (w.heap.size + 1)) #[] #[]] ++ lb, W1, ?_, ?_, ?_, ?_, fun h => by (rw [hd] at h; cases h), ?_⟩
  · rw [← hW1, hrec]; exact run_enterLoop_outer _ _ _ _ _
  · simp only [resolve, hg]
    simp [go_sem]
  · intro f' hf'; simp [Target.leads] at hf'; subst hf'; exact hFg
  · simp [invoke, go_sem, eg]
  · refine (hit (w.heap.size + 1)
      (fun pre W => I pre W ∧ W.heap[w.heap.size + 1]? = some (.loop (rec .ready none)) ∧ W.heap[w.heap.size]? = some (.deferred (some [])))
      (fun pre W => Ix pre W ∧ W.heap[w.heap.size + 1]? = some (.loop (rec .done (some .ret))) ∧ W.heap[w.heap.size]? = some (.deferred (some [])))
      W1 hb1
      (fun s A B row hs hg' hr => ⟨hI s A B row hs.1 hg' (wide (B := B) hr), keep hs.2.1 (by omega) hg' hr, keep hs.2.2 (by omega) hg' hr⟩)
      (fun s A B row hs hg' hr => ⟨hIx s A B row hs.1 hg' (wide (B := B) hr), keep hs.2.1 (by omega) hg' hr, keep hs.2.2 (by omega) hg' hr⟩)
      ?_ ⟨hI1, hL1, hK1⟩ (n - 1)).mono ?_
    · rintro m pre x W ⟨hi, hl, hk⟩ hpre
      have hlt : w.heap.size + 1 < W.heap.size := (Array.getElem?_eq_some_iff.1 hl).1
      have hy := run_yield (P := P) (args := #[enc x]) hl (by rw [hrec]; rfl)
      rw [hrec] at hy
      refine ⟨fn, _, assign, body, hy, roundIn_of_wpIn hfn ?_⟩
      clear hy
      refine hassign _ m pre x W _ (by omega) hi ?_
      intro a' Wa hka hia hax
      have hla := hka.same.same _ _ (by omega) hl rfl
      have hkk := hka.same.same _ _ (Nat.le_refl _) hk rfl
      have hlta : w.heap.size + 1 < Wa.heap.size := (Array.getElem?_eq_some_iff.1 hla).1
      refine ⟨_, run_beginRound hla (by rw [hrec]), ?_⟩
      have hl2 : (Wa.putObj (w.heap.size + 1) (.loop { rec .ready none with state := .busy })).heap[w.heap.size + 1]? = some (.loop { rec .ready none with state := .busy }) := World.putObj_heap_same hlta
      have hk2 : (Wa.putObj (w.heap.size + 1) (.loop { rec .ready none with state := .busy })).heap[w.heap.size]? = some (.deferred (some [])) := (World.putObj_heap_other (by omega)).trans hkk
      have hw2 : Kp T n₀ W1.heap.size Wa (Wa.putObj (w.heap.size + 1) (.loop { rec .ready none with state := .busy })) := Kp.putObj _ (by omega) hla rfl (by omega)
      refine wpIn_mono (hbody _ m pre x a' _ (by simp [World.putObj]; omega) (hI.putObj _ hia (by omega) hla rfl) ((hAx x a').putObj (s := ()) _ hax (by omega) hla rfl) hpre) ?_
      have fin : ∀ (jump : Option Code) (W3 : World), Kp T n₀ w.heap.size (Wa.putObj (w.heap.size + 1) (.loop { rec .ready none with state := .busy })) W3 →
          (Instr.endRound (w.heap.size + 1) jump).run P W3 = .ok (.bool jump.isNone) (W3.putObj (w.heap.size + 1) (.loop (rec (if jump.isNone then .ready else .done) jump))) ∧
          W3.heap[w.heap.size + 1]? = some (.loop { rec .ready none with state := .busy }) ∧
          (W3.putObj (w.heap.size + 1) (.loop (rec (if jump.isNone then .ready else .done) jump))).heap[w.heap.size + 1]? = some (.loop (rec (if jump.isNone then .ready else .done) jump)) ∧
          (W3.putObj (w.heap.size + 1) (.loop (rec (if jump.isNone then .ready else .done) jump))).heap[w.heap.size]? = some (.deferred (some [])) ∧
          Kp T n₀ W1.heap.size W (W3.putObj (w.heap.size + 1) (.loop (rec (if jump.isNone then .ready else .done) jump))) := fun jump W3 hk3 => by
        have hl3 := hk3.same.same _ _ (by omega) hl2 rfl
        have hrun := run_endRound (P := P) jump hl3
        rw [hrec] at hrun ⊢
        refine ⟨hrun, by rw [hrec] at hl3; exact hl3, World.putObj_heap_same (Array.getElem?_eq_some_iff.1 hl3).1, (World.putObj_heap_other (by omega)).trans (hk3.same.same _ _ (Nat.le_refl _) hk2 rfl), ?_⟩
        exact (((hka.mono (by omega)).trans hw2).trans (hk3.mono (by omega))).trans (Kp.putObj _ (by omega) hl3 rfl (by omega))
      rintro e a3 W3 hp
      cases e with
      | normal =>
        obtain ⟨hk3, hi3⟩ := hp
        obtain ⟨hr, hl3, hl4, hk4, hkp⟩ := fin none W3 hk3
        exact ⟨_, _, hr, .inl ⟨rfl, hI.putObj _ hi3 (by omega) hl3 rfl, hl4, hk4⟩, hkp⟩
      | ret =>
        obtain ⟨hk3, hi3⟩ := hp
        obtain ⟨hr, hl3, hl4, hk4, hkp⟩ := fin (some .ret) W3 hk3
        exact ⟨_, _, hr, .inr ⟨rfl, hIx.putObj _ hi3 (by omega) hl3 rfl, hl4, hk4⟩, hkp⟩
      | exit id => exact hp.elim
      | goto t => exact hp.elim
      | panic ch => exact hp.elim
      | outgrown => exact hp.elim
    · rintro e W2 ⟨⟨v, rfl⟩, (⟨hi, hl, hk⟩ | ⟨pre, hSp, hi, hl, hk⟩)⟩
      · exact ⟨none, _, by have := run_endLoop (P := P) hl (by rw [hrec]; simp); rw [hrec] at this; exact this, hdone _ _ (Nat.le_refl _) (hI.putObj _ hi (by omega) hl rfl) ((World.putObj_heap_other (by omega)).trans hk)⟩
      · exact ⟨some .ret, _, by have := run_endLoop (P := P) hl (by rw [hrec]; simp); rw [hrec] at this; exact this, hstop _ pre _ (Nat.le_refl _) hSp (hIx.putObj _ hi (by omega) hl rfl) ((World.putObj_heap_other (by omega)).trans hk)⟩
end
end Go.Proofs.YtplocldnklccfaaGreatDoor
namespace Go.Proofs.YtplocldnklccfaaGreatDoor
open Go.RowKit
set_option linter.unusedVariables false
set_option linter.unusedSimpArgs false

theorem cell_of_blk {w : World} {b i : Nat} {cs : Array Value} {t : TypeId} {fr : Nat × Nat} (h : w.heap[b]? = some (.cells cs t fr)) : w.cell? ⟨b, i, none⟩ = cs[i]? := cell_of_row w b i cs t fr h

theorem May_none (cb mb : Nat) (name : ByteArray) (day : Int) (w : World) (hc0 : w.cell? ⟨cb, 0, none⟩ = some (.map (some mb)))
    (hlk : Sem.run Tryz.prog (Instr.lookup 145 (.map (some mb)) (.string name) false) w = .ok (.pointer none) w) :
    Calls Tryz.prog 154 #[.pointer (some ⟨cb, 0, none⟩), .string name, .int .i64 day] w fun e w' => e = .returned (.int .i64 61) ∧ w = w' := by
  go_enter Tryz.func154, Tryz.ntmps154
  go_wp2
  go_ret
  exact ⟨rfl, rfl⟩

set_option maxRecDepth 100000 in
theorem May_some (cb mb nb : Nat) (name : ByteArray) (day op : Int) (cl : Bool) (w : World) (hc0 : w.cell? ⟨cb, 0, none⟩ = some (.map (some mb)))
    (hlk : Sem.run Tryz.prog (Instr.lookup 145 (.map (some mb)) (.string name) false) w = .ok (.pointer (some ⟨nb, 0, none⟩)) w)
    (h2 : w.cell? ⟨nb, 2, none⟩ = some (.int .i64 op)) (h3 : w.cell? ⟨nb, 3, none⟩ = some (.bool cl)) :
    Calls Tryz.prog 154 #[.pointer (some ⟨cb, 0, none⟩), .string name, .int .i64 day] w fun e w' => e = .returned (.int .i64 (if cl then 63 else if day < op then 66 else 0)) ∧ w = w' := by
  cases cl
  · by_cases h : day < op
    · go_enter Tryz.func154, Tryz.ntmps154
      go_wp2
      go_ret
      exact ⟨by simp [h], rfl⟩
    · go_enter Tryz.func154, Tryz.ntmps154
      go_wp2
      go_ret
      exact ⟨by simp [h], rfl⟩
  · go_enter Tryz.func154, Tryz.ntmps154
    go_wp2
    go_ret
    exact ⟨rfl, rfl⟩

/-- What May answers. -/
def mayE (L : List Acct) (name : ByteArray) (day : Int) : Int :=
  match findA L name with
  | none => 61
  | some a => if a.closed then 63 else if day < a.opened then 66 else 0

theorem May_any {w : World} {F : Nat → Prop} {cb : Nat} {L : List Acct} (h : ChartAt w F cb L) (name : ByteArray) (day : Int) :
    Calls Tryz.prog 154 #[.pointer (some ⟨cb, 0, none⟩), .string name, .int .i64 day] w fun e w' => e = .returned (.int .i64 (mayE L name day)) ∧ w = w' := by
  obtain ⟨mb, rv, nb, kv, ps, h⟩ := h
  have hlk := h.lookup name
  have hc0 : w.cell? ⟨cb, 0, none⟩ = some (.map (some mb)) := by rw [cell_of_blk h.hC]; rfl
  unfold mayE
  cases hf : findA L name with
  | none =>
    rw [hf] at hlk
    exact May_none cb mb name day w hc0 hlk
  | some a =>
    rw [hf] at hlk
    obtain ⟨ha, rfl⟩ := findA_some hf
    exact May_some cb mb (nb a.name) a.name day a.opened a.closed w hc0 hlk (by rw [cell_of_blk (h.hN a ha)]; rfl) (by rw [cell_of_blk (h.hN a ha)]; rfl)

def accV (a : Acct) : Value := .agg #[.string a.name, .int .i64 a.typ, .int .i64 a.opened, .bool a.closed]
def noA : Acct := ⟨⟨#[]⟩, 0, 0, false⟩

set_option maxRecDepth 100000 in
theorem Find_none (cb mb : Nat) (name : ByteArray) (w : World) (hlt : cb < w.heap.size) (hc0 : w.cell? ⟨cb, 0, none⟩ = some (.map (some mb)))
    (hlk : ∀ o, Sem.run Tryz.prog (Instr.lookup 145 (.map (some mb)) (.string name) false) (w.alloc o) = .ok (.pointer none) (w.alloc o)) :
    Calls Tryz.prog 156 #[.pointer (some ⟨cb, 0, none⟩), .string name] w fun e w' => e = .returned (.tuple #[accV noA, .bool false]) ∧ Below w.heap.size w w' := by
  go_enter Tryz.func156, Tryz.ntmps156
  go_wp2
  refine bodyPost_ret (v := .tuple #[accV noA, .bool false]) (by simp [results, Tryz.results156, go_sem, accV, noA]) rfl ⟨rfl, ?_⟩
  first | exact (Below.refl _ _).alloc (Nat.le_refl _) _ | exact (((((Below.refl _ _).alloc (Nat.le_refl _) _).setCell (Nat.le_refl _) _).setCell (Nat.le_refl _) _).setCell (Nat.le_refl _) _).setCell (Nat.le_refl _) _

set_option maxRecDepth 100000 in
theorem Find_some (cb mb nb : Nat) (a : Acct) (w : World) (hlt : cb < w.heap.size) (hln : nb < w.heap.size) (hc0 : w.cell? ⟨cb, 0, none⟩ = some (.map (some mb)))
    (hlk : ∀ o, Sem.run Tryz.prog (Instr.lookup 145 (.map (some mb)) (.string a.name) false) (w.alloc o) = .ok (.pointer (some ⟨nb, 0, none⟩)) (w.alloc o))
    (h0 : w.cell? ⟨nb, 0, none⟩ = some (.string a.name)) (h1 : w.cell? ⟨nb, 1, none⟩ = some (.int .i64 a.typ)) (h2 : w.cell? ⟨nb, 2, none⟩ = some (.int .i64 a.opened)) (h3 : w.cell? ⟨nb, 3, none⟩ = some (.bool a.closed)) :
    Calls Tryz.prog 156 #[.pointer (some ⟨cb, 0, none⟩), .string a.name] w fun e w' => e = .returned (.tuple #[accV a, .bool true]) ∧ Below w.heap.size w w' := by
  go_enter Tryz.func156, Tryz.ntmps156
  go_wp2
  refine bodyPost_ret (v := .tuple #[accV a, .bool true]) (by simp [results, Tryz.results156, go_sem, accV]) rfl ⟨rfl, ?_⟩
  first | exact (Below.refl _ _).alloc (Nat.le_refl _) _ | exact (((((Below.refl _ _).alloc (Nat.le_refl _) _).setCell (Nat.le_refl _) _).setCell (Nat.le_refl _) _).setCell (Nat.le_refl _) _).setCell (Nat.le_refl _) _

theorem Find_any {w : World} {F : Nat → Prop} {cb : Nat} {L : List Acct} (h : ChartAt w F cb L) (name : ByteArray) :
    Calls Tryz.prog 156 #[.pointer (some ⟨cb, 0, none⟩), .string name] w fun e w' => e = .returned (.tuple #[accV ((findA L name).getD noA), .bool (findA L name).isSome]) ∧ Below w.heap.size w w' := by
  obtain ⟨mb, rv, nb, kv, ps, h⟩ := h
  have hlk := fun o => (h.keep (w' := w.alloc o) fun k _ hk => Below.heap_alloc w o k hk).lookup name
  have hc0 : w.cell? ⟨cb, 0, none⟩ = some (.map (some mb)) := by rw [cell_of_blk h.hC]; rfl
  cases hf : findA L name with
  | none =>
    rw [hf] at hlk
    exact Find_none cb mb name w (heap_lt h.hC) hc0 hlk
  | some a =>
    rw [hf] at hlk
    obtain ⟨ha, rfl⟩ := findA_some hf
    have hn := h.hN a ha
    exact Find_some cb mb (nb a.name) a w (heap_lt h.hC) (heap_lt hn) hc0 hlk (by rw [cell_of_blk hn]; rfl) (by rw [cell_of_blk hn]; rfl) (by rw [cell_of_blk hn]; rfl) (by rw [cell_of_blk hn]; rfl)
end Go.Proofs.YtplocldnklccfaaGreatDoor
namespace Go.Proofs.YtplocldnklccfaaGreatDoor
open Go.RowKit Go.Shelf
set_option linter.unusedVariables false
set_option linter.unusedSimpArgs false
attribute [local go_sem] Oper.semAt_some

/-- A list of accounts, each with all below it behind it, so many steps deep. -/
def preL (L : List Acct) : Nat → List Acct → List Acct
  | 0, _ => []
  | d + 1, l => l.flatMap fun a => a :: preL L d (kidsA L a.name)

/-- A row of pointers to accounts lies below n₀. -/
structure RowOK (n₀ : Nat) (w : World) (nb : ByteArray → Nat) (v : Value) (l : List Acct) : Prop where
  ex : ∃ A c, v = .slice A l.length c ∧ ∀ j (hj : j < l.length), ∃ ad, A = some ad ∧ ad.block < n₀ ∧ w.cell? (ad.add j) = some (ptrV (nb l[j].name))

structure ForestAt (n₀ : Nat) (w : World) (nb : ByteArray → Nat) (kv : ByteArray → Value) (L : List Acct) : Prop where
  lt : ∀ a ∈ L, nb a.name < n₀
  c0 : ∀ a ∈ L, w.cell? ⟨nb a.name, 0, none⟩ = some (.string a.name)
  c1 : ∀ a ∈ L, w.cell? ⟨nb a.name, 1, none⟩ = some (.int .i64 a.typ)
  c2 : ∀ a ∈ L, w.cell? ⟨nb a.name, 2, none⟩ = some (.int .i64 a.opened)
  c3 : ∀ a ∈ L, w.cell? ⟨nb a.name, 3, none⟩ = some (.bool a.closed)
  c4 : ∀ a ∈ L, w.cell? ⟨nb a.name, 4, none⟩ = some (kv a.name)
  kids : ∀ a ∈ L, RowOK n₀ w nb (kv a.name) (kidsA L a.name)

theorem block_add (ad : Addr) (j : Nat) : (ad.add j).block = ad.block := by unfold Addr.add; split <;> rfl

theorem RowOK.below {n₀ : Nat} {w w' : World} {nb : ByteArray → Nat} {v : Value} {l : List Acct} (h : RowOK n₀ w nb v l) (hb : Below n₀ w w') : RowOK n₀ w' nb v l := by
  obtain ⟨A, c, e, hA⟩ := h
  refine ⟨A, c, e, fun j hj => ?_⟩
  obtain ⟨ad, h1, h2, h3⟩ := hA j hj
  exact ⟨ad, h1, h2, (hb.cell (p := ad.add j) (by rw [block_add]; exact h2)).trans h3⟩
theorem ForestAt.below {n₀ : Nat} {w w' : World} {nb : ByteArray → Nat} {kv : ByteArray → Value} {L : List Acct} (h : ForestAt n₀ w nb kv L) (hb : Below n₀ w w') : ForestAt n₀ w' nb kv L where
  lt := h.lt
  c0 := fun a ha => (hb.cell (p := ⟨nb a.name, 0, none⟩) (h.lt a ha)).trans (h.c0 a ha)
  c1 := fun a ha => (hb.cell (p := ⟨nb a.name, 1, none⟩) (h.lt a ha)).trans (h.c1 a ha)
  c2 := fun a ha => (hb.cell (p := ⟨nb a.name, 2, none⟩) (h.lt a ha)).trans (h.c2 a ha)
  c3 := fun a ha => (hb.cell (p := ⟨nb a.name, 3, none⟩) (h.lt a ha)).trans (h.c3 a ha)
  c4 := fun a ha => (hb.cell (p := ⟨nb a.name, 4, none⟩) (h.lt a ha)).trans (h.c4 a ha)
  kids := fun a ha => (h.kids a ha).below hb

theorem CR.forest {w : World} {F : Nat → Prop} {cb mb : Nat} {L : List Acct} {rv : Value} {nb : ByteArray → Nat} {kv : ByteArray → Value} {ps : List (ByteArray × Value)}
    (h : CR w F cb L mb rv nb kv ps) : ForestAt w.heap.size w nb kv L ∧ RowOK w.heap.size w nb rv (rootsA L) := by
  have row : ∀ {v : Value} {l : List Acct}, w.ownsRow 0 234 1 v l.length (l.map fun b => ptrV (nb b.name)) → RowOK w.heap.size w nb v l := by
    intro v l ho
    rcases ho.2 with ⟨rfl, hn⟩ | ⟨g, cap, cur, rfl, hb, hg, r⟩
    · exact ⟨none, 0, by rw [hn], fun j hj => by omega⟩
    · exact ⟨_, cap, rfl, fun j hj => ⟨_, rfl, heap_lt hg, ho.cells (g := g) rfl j _ (by simp [hj])⟩⟩
  refine ⟨⟨fun a ha => heap_lt (h.hN a ha), ?_, ?_, ?_, ?_, ?_, fun a ha => row (h.hK a ha)⟩, row h.hR⟩
  all_goals intro a ha; rw [cell_of_blk (h.hN a ha)]; rfl

set_option maxHeartbeats 1000000 in
theorem below_in (F : Fence) (n : Nat) (h22 : F.fn 215) (hro : F.round = none) (A : Option Addr) (m c : Nat) (w : World) :
    CallsIn F n Tryz.prog 215 #[.slice A m c] w fun e w' => e = .returned (.func (.func 248) #[] #[.pointer (some ⟨w.heap.size, 0, none⟩)]) ∧ w' = w.alloc (.cells #[.slice A m c] 146) := by
  refine callsIn_of_wp Tryz.func215 rfl h22 ?_ hro
  simp only [Tryz.ntmps215, List.size_toArray, List.length_cons, List.length_nil, Nat.reduceAdd, Nat.reduceSub, Array.replicate_succ, Array.replicate_zero, List.push_toArray, List.append_toArray, List.nil_append, List.cons_append]
  gi_wp2
  go_ret
  exact ⟨rfl, rfl⟩
end Go.Proofs.YtplocldnklccfaaGreatDoor
namespace Go.Proofs.YtplocldnklccfaaGreatDoor
open Go.RowKit
set_option linter.unusedVariables false
set_option linter.unusedSimpArgs false

/-- A slice of things of s cells each, to be read; its blocks are of R. -/
structure RowAt (w : World) (R : Nat → Prop) (s : Nat) (v : Value) (xs : List (List Value)) : Prop where
  ex : ∃ (A : Option Addr) (c : Nat), v = .slice A xs.length c ∧ ∀ j (hj : j < xs.length), ∃ ad, A = some ad ∧ ad.block < w.heap.size ∧ R ad.block ∧ ∀ i u, xs[j][i]? = some u → w.cell? ((ad.add (j * s)).add i) = some u

theorem RowAt.keep {w w' : World} {R R' : Nat → Prop} {s : Nat} {v : Value} {xs : List (List Value)} (h : RowAt w R s v xs) (hk : ∀ k, R k → k < w.heap.size → w'.heap[k]? = w.heap[k]? ∧ R' k) : RowAt w' R' s v xs := by
  obtain ⟨A, c, hv, hx⟩ := h
  refine ⟨A, c, hv, fun j hj => ?_⟩
  obtain ⟨ad, e1, h1, h2, h3⟩ := hx j hj
  obtain ⟨k1, k2⟩ := hk _ h2 h1
  have hl : ad.block < w'.heap.size := by
    have h4 : w.heap[ad.block]? = some (w.heap[ad.block]'h1) := Array.getElem?_eq_getElem h1
    exact heap_lt (k1.trans h4)
  refine ⟨ad, e1, hl, k2, fun i u hu => ?_⟩
  rw [← h3 i u hu]
  exact World.cell?_of_block (by rw [block_add, block_add]; exact k1)
theorem RowAt.below {w w' : World} {R : Nat → Prop} {s : Nat} {v : Value} {xs : List (List Value)} (h : RowAt w R s v xs) (hb : Below w.heap.size w w') : RowAt w' R s v xs :=
  h.keep fun k hR hk => ⟨hb.block k hk, hR⟩
theorem RowAt.mono {w : World} {R R' : Nat → Prop} {s : Nat} {v : Value} {xs : List (List Value)} (h : RowAt w R s v xs) (hk : ∀ k, R k → R' k) : RowAt w R' s v xs :=
  h.keep fun k hR _ => ⟨rfl, hk k hR⟩
theorem RowAt.ch {w w' : World} {R F : Nat → Prop} {s : Nat} {v : Value} {xs : List (List Value)} (h : RowAt w R s v xs) (hc : Ch F w w') (hd : ∀ k, R k → ¬ F k) : RowAt w' R s v xs :=
  h.keep fun k hR hk => ⟨hc.block k hk (hd k hR), hR⟩
theorem RowAt.nil (w : World) (R : Nat → Prop) (s : Nat) : RowAt w R s (.slice none 0 0) [] := ⟨none, 0, rfl, fun j hj => by simp at hj⟩

theorem flat_get {s : Nat} : ∀ (xs : List (List Value)), (∀ x ∈ xs, x.length = s) → ∀ j (hj : j < xs.length) i u, xs[j][i]? = some u → xs.flatten[j * s + i]? = some u
  | [], _, j, hj, _, _, _ => by simp at hj
  | x :: xs, hs, 0, _, i, u, hu => by
    have hi : i < x.length := (List.getElem?_eq_some_iff.1 hu).1
    rw [List.flatten_cons, List.getElem?_append_left (by simpa using hi)]
    simpa using hu
  | x :: xs, hs, j + 1, hj, i, u, hu => by
    have hx : x.length = s := hs x (by simp)
    rw [List.flatten_cons, List.getElem?_append_right (by rw [hx]; have : (j + 1) * s = j * s + s := Nat.succ_mul _ _; omega)]
    have e : (j + 1) * s + i - x.length = j * s + i := by rw [hx]; have : (j + 1) * s = j * s + s := Nat.succ_mul _ _; omega
    rw [e]
    exact flat_get xs (fun y hy => hs y (by simp [hy])) j (by simpa using hj) i u (by simpa using hu)

/-- What is owned can be read. -/
theorem RowAt.of_own {w : World} {B e s : Nat} {v : Value} {xs : List (List Value)} {R : Nat → Prop} (h : w.ownsRow B e s v xs.length xs.flatten) (hs : ∀ x ∈ xs, x.length = s) (hR : ∀ k, v.ownBlock = some k → R k) : RowAt w R s v xs := by
  rcases h.2 with ⟨hv, h0⟩ | ⟨g, cap, cur, hv, hb, hg, r⟩
  · refine ⟨none, 0, by rw [hv, h0], fun j hj => by omega⟩
  · refine ⟨some ⟨g, 0, none⟩, cap, hv, fun j hj => ⟨_, rfl, heap_lt hg, hR g (by rw [hv]; rfl), fun i u hu => ?_⟩⟩
    have := h.cells (g := g) (by rw [hv]; rfl) (j * s + i) u (flat_get xs hs j hj i u hu)
    rw [Addr.add_lit] at this
    rw [Addr.add_lit, Addr.add_lit]
    simpa [Nat.add_assoc] using this
theorem flat_len {s : Nat} : ∀ (xs : List (List Value)), (∀ x ∈ xs, x.length = s) → xs.flatten.length = xs.length * s
  | [], _ => by simp
  | x :: xs, h => by
    rw [List.flatten_cons, List.length_append, h x (by simp), flat_len xs fun y hy => h y (by simp [hy]), List.length_cons, Nat.succ_mul]
    omega
theorem flat_at {s : Nat} : ∀ (xs : List (List Value)), (∀ x ∈ xs, x.length = s) → ∀ t u, xs.flatten[t]? = some u → ∃ j, ∃ hj : j < xs.length, ∃ i, t = j * s + i ∧ xs[j][i]? = some u
  | [], _, t, u, h => by simp at h
  | x :: xs, hs, t, u, h => by
    have hx : x.length = s := hs x (by simp)
    rw [List.flatten_cons] at h
    by_cases ht : t < x.length
    · rw [List.getElem?_append_left ht] at h
      exact ⟨0, by simp, t, by simp, h⟩
    · rw [List.getElem?_append_right (by omega)] at h
      obtain ⟨j, hj, i, e, hu⟩ := flat_at xs (fun y hy => hs y (by simp [hy])) _ u h
      refine ⟨j + 1, by simpa using hj, i, ?_, by simpa using hu⟩
      rw [Nat.succ_mul]
      omega
theorem row_cells {w : World} {R : Nat → Prop} {s : Nat} {ad : Addr} {xs : List (List Value)} (hx : ∀ j (hj : j < xs.length), ∃ a, some ad = some a ∧ a.block < w.heap.size ∧ R a.block ∧ ∀ i u, xs[j][i]? = some u → w.cell? ((a.add (j * s)).add i) = some u)
    (hs : ∀ x ∈ xs, x.length = s) (h0 : 0 < s) (t : Nat) (u : Value) (hu : xs.flatten[t]? = some u) : w.cell? (ad.add t) = some u := by
  obtain ⟨j, hj, i, rfl, h⟩ := flat_at xs hs t u hu
  obtain ⟨a, e, _, _, hc⟩ := hx j hj
  cases e
  rw [← Addr.add_add]
  exact hc i u h
theorem frozen_blk {w : World} {b : Nat} {cs : Array Value} {t : TypeId} (h : w.heap[b]? = some (.cells cs t (0, 0))) (i : Nat) : w.frozen? ⟨b, i, none⟩ = false := by
  simp [World.frozen?, h]

set_option maxRecDepth 100000 in
theorem bel1 (w : World) (o : Obj) : Below w.heap.size w (w.alloc o) := (Below.refl _ _).alloc (Nat.le_refl _) _
theorem own_form {w : World} {B e s n : Nat} {v : Value} {xs : List Value} (h : w.ownsRow B e s v n xs) : ∃ A c, v = .slice A n c := by
  rcases h.2 with ⟨hv, h0⟩ | ⟨g, cap, cur, hv, _⟩
  · exact ⟨none, 0, by rw [hv, h0]⟩
  · exact ⟨_, _, hv⟩
theorem grownBy_refl (w : World) (row : Option Nat) : w.grownBy w row := ⟨rfl, rfl, rfl, Nat.le_refl _, fun _ _ _ => rfl⟩

/-- Nil is as nil is. -/
def NilOk (v : Value) : Prop := ∀ n c, v = .slice none n c → n = 0 ∧ c = 0
theorem NilOk.own {w : World} {B e s n : Nat} {v : Value} {xs : List Value} (h : w.ownsRow B e s v n xs) : NilOk v := by
  intro m c e
  subst e
  rcases h.2 with ⟨hv, _⟩ | ⟨g, cap, cur, hv, _⟩
  · cases hv; exact ⟨rfl, rfl⟩
  · cases hv

/-- append of a row that can be read, nil or not. -/
theorem wpList_append_row {P : Program} {w : World} {ops : Array Oper} {rest : List Oper} {o : Oper} {a : Act} {Q : Exit → Act → World → Prop} (hgd : o.guard = none) (s x : Operand) (t : TypeId)
    (ho : o.op = .call { callee := .builtin .append, args := #[s, x], argTypes := #[t, t] })
    (base : Nat) (e : TypeId) (i : TypeInfo) (z : Value) (size bytes : Nat) (ht : P.underlying t = some (.slice e)) (hi : P.info? e = some i) (hz : i.zero = some z)
    (hsize : i.size = size) (hby : i.bytes = bytes) (hzs : z.cells.size = size) (hsz : 0 < size)
    (v : Value) (n : Nat) (xs : List Value) (hs : a.eval s = v) (hown : w.ownsRow base e size v n xs)
    {R : Nat → Prop} (rv : Value) (rs : List (List Value)) (hx : a.eval x = rv) (hrow : RowAt w R size rv rs) (hnil : NilOk rv) (hlen : ∀ x ∈ rs, x.length = size) (h1 : ∀ x ∈ rs, ∀ u ∈ x, u.oneCell' = true)
    (h63 : n + rs.length ≤ maxLen) (hbytes : (n + rs.length) * bytes ≤ 140737488355328) (hbase : base ≤ w.heap.size)
    (h : ∀ v' w', w'.ownsRow base e size v' (n + rs.length) (xs ++ rs.flatten) → w.grownBy w' v.ownBlock → (v'.ownBlock = v.ownBlock ∨ v'.ownBlock = some w.heap.size) → wpList P ops Q rest (a.put o.dst v') w') :
    wpList P ops Q (o :: rest) a w := by
  obtain ⟨A, c, hv, hcl⟩ := hrow
  subst hv
  cases A with
  | none =>
    have h0 : rs = [] := by
      cases rs with
      | nil => rfl
      | cons y ys => obtain ⟨ad, e, _⟩ := hcl 0 (by simp); cases e
    subst h0
    obtain ⟨_, rfl⟩ := hnil _ _ rfl
    exact wpList_append_own_none hgd s x t ho base e i size ht hi v n xs hs hown hx (h v w (by simpa using hown) (grownBy_refl _ _) (.inl rfl))
  | some ad =>
    exact wpList_append_own_at _ hgd s x t ho base e i z size bytes ht hi hz hsize hby hzs hsz v n xs hs hown ad rs.length c rs.flatten hx (flat_len rs hlen) (fun j u hu => row_cells hcl hlen hsz j u hu)
      (fun u hu => by obtain ⟨y, hy, hyu⟩ := List.mem_flatten.1 hu; exact h1 y hy u hyu) h63 hbytes hbase fun v' w' h2 h3 _ h5 => h v' w' h2 h3 h5
/-- append of a row that can be read, at a step of a drawn region. -/
theorem step_append_row {P : Program} {w : World} {ops : Array Oper} {o : Oper} {a : Act} {K : Act → World → Prop} {Q : Exit → Act → World → Prop} {E : Prop} (hgd : o.guard = none) (s x : Operand) (t : TypeId)
    (ho : o.op = .call { callee := .builtin .append, args := #[s, x], argTypes := #[t, t] })
    (base : Nat) (e : TypeId) (i : TypeInfo) (z : Value) (size bytes : Nat) (ht : P.underlying t = some (.slice e)) (hi : P.info? e = some i) (hz : i.zero = some z)
    (hsize : i.size = size) (hby : i.bytes = bytes) (hzs : z.cells.size = size) (hsz : 0 < size)
    (v : Value) (n : Nat) (xs : List Value) (hs : a.eval s = v) (hown : w.ownsRow base e size v n xs)
    {R : Nat → Prop} (rv : Value) (rs : List (List Value)) (hx : a.eval x = rv) (hrow : RowAt w R size rv rs) (hnil : NilOk rv) (hlen : ∀ x ∈ rs, x.length = size) (h1 : ∀ x ∈ rs, ∀ u ∈ x, u.oneCell' = true)
    (h63 : n + rs.length ≤ maxLen) (hbytes : (n + rs.length) * bytes ≤ 140737488355328) (hbase : base ≤ w.heap.size)
    (h : ∀ v' w', w'.ownsRow base e size v' (n + rs.length) (xs ++ rs.flatten) → w.grownBy w' v.ownBlock → (v'.ownBlock = v.ownBlock ∨ v'.ownBlock = some w.heap.size) → K (a.put o.dst v') w') :
    if Region.wanted o (yielded ops a.tmps) = true then Oper.wp P o a w K Q else E := by
  have hw : Region.wanted o (yielded ops a.tmps) = true := by simp [Region.wanted, hgd]
  rw [if_pos hw]
  obtain ⟨A, c, hv, hcl⟩ := hrow
  subst hv
  cases A with
  | none =>
    have h0 : rs = [] := by
      cases rs with
      | nil => rfl
      | cons y ys => obtain ⟨ad, e, _⟩ := hcl 0 (by simp); cases e
    subst h0
    obtain ⟨_, rfl⟩ := hnil _ _ rfl
    have hrun := run_append_owned_none (P := P) (w := w) base t o.type e i size ht hi v n xs hown
    unfold Oper.wp
    have hx' : a.eval x = .slice none 0 0 := hx
    simp [execOp, ho, resolve, invoke, builtin, hs, hx', hrun, Result.andThen]
    exact h v w (by simpa using hown) (grownBy_refl _ _) (.inl rfl)
  | some ad =>
    obtain ⟨v', w', hr, h2, h3, _, h5⟩ := run_append_own_at (P := P) w base t o.type e i z size bytes ht hi hz hsize hby hzs hsz v n xs hown ad rs.length c rs.flatten (flat_len rs hlen) (fun j u hu => row_cells hcl hlen hsz j u hu)
      (fun u hu => by obtain ⟨y, hy, hyu⟩ := List.mem_flatten.1 hu; exact h1 y hy u hyu) h63 hbytes hbase
    unfold Oper.wp execOp
    simp only [ho, resolve, invoke, builtin, Sem.run_bind, Sem.run_pure, Result.andThen_ok, List.map_toArray, List.map_cons, List.map_nil, hs, hx, hr]
    exact h v' w' h2 h3 h5

end Go.Proofs.YtplocldnklccfaaGreatDoor
namespace Go.Proofs.YtplocldnklccfaaGreatDoor
open Go.RowKit
set_option linter.unusedVariables false
set_option linter.unusedSimpArgs false

/-- A kept list: its number; written over; appended to; what it showed. -/
structure PageV (T : Type) where
  id : Int
  done : Bool
  grown : Bool
  was : List T

section
variable {T : Type} (mk : Int → Int → T)
def marksL (id : Int) (n : Nat) : List T := (List.range n).map fun k : Nat => mk id (k : Int)
theorem marksL_len (id : Int) (n : Nat) : (marksL mk id n).length = n := by simp [marksL]
theorem marksL_get (id : Int) (n k : Nat) (h : k < (marksL mk id n).length) : (marksL mk id n)[k] = mk id (k : Int) := by simp [marksL]
theorem marksL_succ (id : Int) (n : Nat) : marksL mk id (n + 1) = marksL mk id n ++ [mk id (n : Int)] := by simp [marksL, List.range_succ]
/-- What the list shows now. -/
def curL (p : PageV T) : List T := if p.done then marksL mk p.id p.was.length else p.was
/-- What the longer one shows. -/
def groL (p : PageV T) : List T := curL mk p ++ marksL mk (p.id + 100000) 64
theorem curL_len (p : PageV T) : (curL mk p).length = p.was.length := by unfold curL; split <;> simp [marksL_len]
theorem groL_len (p : PageV T) : (groL mk p).length = p.was.length + 64 := by unfold groL; rw [List.length_append, curL_len, marksL_len]

structure PageAt (w : World) (R : Nat → Prop) (e : TypeId) (s : Nat) (enc : T → List Value) (p : PageV T) (L G W : Value) : Prop where
  form : ∃ A c, L = .slice A p.was.length c
  small : p.was.length ≤ 1048576
  own : p.grown = false → w.ownsRow 0 e s L p.was.length ((curL mk p).map enc).flatten ∧ G = .slice none 0 0
  keep : p.done = false → p.grown = false ∧ w.ownsRow 0 e s W p.was.length (p.was.map enc).flatten ∧ ∀ q, L.ownBlock = some q → W.ownBlock ≠ some q
  gro : p.grown = true → p.done = true ∧ w.ownsRow 0 e s G (p.was.length + 64) ((groL mk p).map enc).flatten ∧ RowAt w R s L ((curL mk p).map enc)
  inR : ∀ q, L.ownBlock = some q ∨ G.ownBlock = some q ∨ W.ownBlock = some q → R q
variable {mk}
theorem PageAt.keepOn {w w' : World} {R R' : Nat → Prop} {e : TypeId} {s : Nat} {enc : T → List Value} {p : PageV T} {L G W : Value} (h : PageAt mk w R e s enc p L G W) (hk : ∀ q, R q → q < w.heap.size → w'.heap[q]? = w.heap[q]? ∧ R' q) (hR : ∀ q, R q → R' q) : PageAt mk w' R' e s enc p L G W where
  form := h.form
  small := h.small
  own := fun hg => ⟨ownsRow_keep (h.own hg).1 fun q hq => (hk q (h.inR q (.inl hq)) ((h.own hg).1.lt q hq).2).1, (h.own hg).2⟩
  keep := fun hd => ⟨(h.keep hd).1, ownsRow_keep (h.keep hd).2.1 fun q hq => (hk q (h.inR q (.inr (.inr hq))) ((h.keep hd).2.1.lt q hq).2).1, (h.keep hd).2.2⟩
  gro := fun hg => ⟨(h.gro hg).1, ownsRow_keep (h.gro hg).2.1 fun q hq => (hk q (h.inR q (.inr (.inl hq))) ((h.gro hg).2.1.lt q hq).2).1, (h.gro hg).2.2.keep hk⟩
  inR := fun q hq => hR q (h.inR q hq)
theorem PageAt.below {w w' : World} {R : Nat → Prop} {e : TypeId} {s : Nat} {enc : T → List Value} {p : PageV T} {L G W : Value} (h : PageAt mk w R e s enc p L G W) (hb : Below w.heap.size w w') : PageAt mk w' R e s enc p L G W :=
  h.keepOn (fun q hq hl => ⟨hb.block q hl, hq⟩) fun q hq => hq
/-- What the list shows can be read. -/
theorem PageAt.reads {w : World} {R : Nat → Prop} {e : TypeId} {s : Nat} {enc : T → List Value} {p : PageV T} {L G W : Value} (h : PageAt mk w R e s enc p L G W) (he : ∀ x, (enc x).length = s) : RowAt w R s L ((curL mk p).map enc) := by
  cases hg : p.grown with
  | true => exact (h.gro hg).2.2
  | false =>
    have h1 := (h.own hg).1
    rw [← curL_len mk p] at h1
    exact RowAt.of_own (by rw [List.length_map]; exact h1) (fun x hx => by obtain ⟨z, _, rfl⟩ := List.mem_map.1 hx; exact he z) fun q hq => h.inR q (.inl hq)
end
end Go.Proofs.YtplocldnklccfaaGreatDoor
namespace Go.Proofs.YtplocldnklccfaaGreatDoor
open Go.RowKit
set_option linter.unusedVariables false
set_option linter.unusedSimpArgs false

/-- A page: what it holds, its three lists, its blocks. -/
structure Pg (T : Type) where
  v : PageV T
  L : Value
  G : Value
  W : Value
  F : Nat → Prop
def Pg.cells {T : Type} (p : Pg T) : List Value := [p.L, p.G, p.W, .int .i64 p.v.id, .bool p.v.done]
theorem Pg.cells_len {T : Type} (p : Pg T) : p.cells.length = 5 := rfl

theorem flat_set {s : Nat} (u : Value) : ∀ (xs : List (List Value)), (∀ x ∈ xs, x.length = s) → ∀ k (hk : k < xs.length) i, i < s → xs.flatten.set (k * s + i) u = (xs.set k (xs[k].set i u)).flatten
  | [], _, k, hk, _, _ => by simp at hk
  | x :: xs, hs, 0, _, i, hi => by
    have hx : x.length = s := hs x (by simp)
    rw [List.flatten_cons, Nat.zero_mul, Nat.zero_add, List.set_append, if_pos (by omega)]
    rfl
  | x :: xs, hs, k + 1, hk, i, hi => by
    have hx : x.length = s := hs x (by simp)
    have he : (k + 1) * s + i = s + (k * s + i) := by rw [Nat.succ_mul]; omega
    rw [List.flatten_cons, List.set_append, if_neg (by omega), he, hx, Nat.add_sub_cancel_left, flat_set u xs (fun y hy => hs y (by simp [hy])) k (by simpa using hk) i hi]
    rfl

section
variable {T : Type} {mk : Int → Int → T}
structure PagesAt (mk : Int → Int → T) (w : World) (e : TypeId) (s : Nat) (enc : T → List Value) (pt : TypeId) (Tv : Value) (ps : List (Pg T)) : Prop where
  own : w.ownsRow 0 pt 5 Tv ps.length (ps.map Pg.cells).flatten
  page : ∀ j (h : j < ps.length), PageAt mk w ps[j].F e s enc ps[j].v ps[j].L ps[j].G ps[j].W
  lt : ∀ j (h : j < ps.length) q, ps[j].F q → q < w.heap.size
  dis : ∀ i j (hi : i < ps.length) (hj : j < ps.length), i ≠ j → ∀ q, ps[i].F q → ¬ ps[j].F q
  top : ∀ j (h : j < ps.length) q, ps[j].F q → Tv.ownBlock ≠ some q
variable {w w' : World} {e : TypeId} {s : Nat} {enc : T → List Value} {pt : TypeId} {Tv : Value} {ps : List (Pg T)}
theorem cells5 (ps : List (Pg T)) : ∀ x ∈ ps.map Pg.cells, x.length = 5 := fun x hx => by
  obtain ⟨p, _, rfl⟩ := List.mem_map.1 hx
  rfl
theorem PagesAt.at_ (h : PagesAt mk w e s enc pt Tv ps) (k : Nat) (hk : k < ps.length) : ∃ tb cap cs, Tv = .slice (some ⟨tb, 0, none⟩) ps.length cap ∧ w.heap[tb]? = some (.cells cs pt (0, 0)) ∧ ∀ i u, ps[k].cells[i]? = some u → cs[k * 5 + i]? = some u := by
  rcases h.own.2 with ⟨hv, h0⟩ | ⟨g, cap, cur, hv, _, hg, h1, h2, h3, h4⟩
  · omega
  · refine ⟨g, cap, cur, hv, hg, fun i u hu => ?_⟩
    have hf := flat_get (ps.map Pg.cells) (cells5 ps) k (by simpa using hk) i u (by simpa using hu)
    have hlt : k * 5 + i < ps.length * 5 := by
      have := (List.getElem?_eq_some_iff.1 hf).1
      rw [flat_len _ (cells5 ps), List.length_map] at this
      exact this
    rw [← h4, List.getElem?_take, if_pos hlt, Array.getElem?_toList] at hf
    exact hf
/-- Nothing of the pages is touched. -/
theorem PagesAt.ch {G : Nat → Prop} (h : PagesAt mk w e s enc pt Tv ps) (hc : Ch G w w') (hG : ∀ j (hj : j < ps.length) q, ps[j].F q → ¬ G q) (hT : ∀ q, Tv.ownBlock = some q → ¬ G q) : PagesAt mk w' e s enc pt Tv ps where
  own := ownsRow_keep h.own fun q hq => hc.block q (h.own.lt q hq).2 (hT q hq)
  page := fun j hj => (h.page j hj).keepOn (fun q hq hl => ⟨hc.block q hl (hG j hj q hq), hq⟩) fun q hq => hq
  lt := fun j hj q hq => Nat.lt_of_lt_of_le (h.lt j hj q hq) hc.size
  dis := h.dis
  top := h.top
theorem PagesAt.below (h : PagesAt mk w e s enc pt Tv ps) (hb : Below w.heap.size w w') : PagesAt mk w' e s enc pt Tv ps :=
  h.ch (G := fun _ => False) (Ch.of_below hb) (fun _ _ _ _ hf => hf) fun _ _ hf => hf
/-- A page is turned: one of its cells, blocks of its own. -/
theorem PagesAt.set {D : Nat → Prop} {tb cap : Nat} {cs : Array Value} (h : PagesAt mk w e s enc pt Tv ps) (k : Nat) (hk : k < ps.length) (hT : Tv = .slice (some ⟨tb, 0, none⟩) ps.length cap) (hcs : w.heap[tb]? = some (.cells cs pt (0, 0))) (i : Nat) (hi : i < 5) (u : Value)
    (hcs' : w'.heap[tb]? = some (.cells (cs.setIfInBounds (k * 5 + i) u) pt (0, 0))) (hc : Ch (fun q => q = tb ∨ D q) w w') (hD : ∀ q, D q → ps[k].F q) (p' : Pg T) (hp' : p'.cells = ps[k].cells.set i u)
    (hpg : PageAt mk w' p'.F e s enc p'.v p'.L p'.G p'.W) (hF : ∀ q, p'.F q → (ps[k].F q ∨ w.heap.size ≤ q) ∧ q < w'.heap.size) : PagesAt mk w' e s enc pt Tv (ps.set k p') := by
  have hne : ∀ j (hj : j < ps.length) q, ps[j].F q → q ≠ tb := fun j hj q hq e => h.top j hj q hq (by rw [hT, e]; rfl)
  have get : ∀ j (hj : j < (ps.set k p').length), (j = k ∧ (ps.set k p')[j] = p') ∨ (j ≠ k ∧ ∃ hj' : j < ps.length, (ps.set k p')[j] = ps[j]) := fun j hj => by
    by_cases e : j = k
    · exact .inl ⟨e, by subst e; simp⟩
    · exact .inr ⟨e, by simpa using hj, by rw [List.getElem_set_ne (Ne.symm e)]⟩
  constructor
  · have h1 := own_set h.own (g := tb) (by rw [hT]; rfl) (k * 5 + i) u
    have h2 := ownsRow_keep (w' := w') h1 fun q hq => by
      obtain rfl : q = tb := by rw [hT] at hq; exact (Option.some.inj hq).symm
      rw [heap_setCell_same hcs, hcs']
    rw [flat_set u _ (cells5 ps) k (by simpa using hk) i hi] at h2
    rw [List.length_set, List.map_set, hp']
    rw [List.getElem_map] at h2
    exact h2
  · intro j hj
    rcases get j hj with ⟨_, e⟩ | ⟨hjk, hj', e⟩
    · rw [e]
      exact hpg
    · rw [e]
      refine (h.page j hj').keepOn (fun q hq hl => ⟨hc.block q hl ?_, hq⟩) fun q hq => hq
      rintro (e2 | hd)
      · exact hne j hj' q hq e2
      · exact h.dis j k hj' hk hjk q hq (hD q hd)
  · intro j hj q hq
    rcases get j hj with ⟨_, e⟩ | ⟨_, hj', e⟩
    · rw [e] at hq
      exact (hF q hq).2
    · rw [e] at hq
      exact Nat.lt_of_lt_of_le (h.lt j hj' q hq) hc.size
  · intro a b ha hb hab q hq hq'
    rcases get a ha with ⟨ea, e⟩ | ⟨hak, ha', e⟩ <;> rcases get b hb with ⟨eb, e'⟩ | ⟨hbk, hb', e'⟩
    · exact hab (by rw [ea, eb])
    · rw [e] at hq
      rw [e'] at hq'
      rcases (hF q hq).1 with h1 | h1
      · exact h.dis k b hk hb' (Ne.symm hbk) q h1 hq'
      · exact absurd (h.lt b hb' q hq') (by omega)
    · rw [e] at hq
      rw [e'] at hq'
      rcases (hF q hq').1 with h1 | h1
      · exact h.dis a k ha' hk hak q hq h1
      · exact absurd (h.lt a ha' q hq) (by omega)
    · rw [e] at hq
      rw [e'] at hq'
      exact h.dis a b ha' hb' hab q hq hq'
  · intro j hj q hq hqT
    rcases get j hj with ⟨_, e⟩ | ⟨_, hj', e⟩
    · rw [e] at hq
      rcases (hF q hq).1 with h1 | h1
      · exact h.top k hk q h1 hqT
      · rw [hT] at hqT
        obtain rfl : tb = q := Option.some.inj hqT
        have := heap_lt hcs
        omega
    · rw [e] at hq
      exact h.top j hj' q hq hqT
/-- A page more. -/
theorem PagesAt.push {Tv' : Value} (h : PagesAt mk w e s enc pt Tv ps) (p : Pg T) (hk : ∀ j (hj : j < ps.length) q, ps[j].F q → w'.heap[q]? = w.heap[q]?) (hsz : w.heap.size ≤ w'.heap.size) (hown : w'.ownsRow 0 pt 5 Tv' (ps.length + 1) ((ps.map Pg.cells).flatten ++ p.cells)) (hT : ∀ q, Tv'.ownBlock = some q → (∀ j (hj : j < ps.length), ¬ ps[j].F q) ∧ ¬ p.F q)
    (hpg : PageAt mk w' p.F e s enc p.v p.L p.G p.W) (hlt : ∀ q, p.F q → q < w'.heap.size) (hd : ∀ q, p.F q → ∀ j (hj : j < ps.length), ¬ ps[j].F q) : PagesAt mk w' e s enc pt Tv' (ps ++ [p]) := by
  have get : ∀ j (hj : j < (ps ++ [p]).length), (j = ps.length ∧ (ps ++ [p])[j] = p) ∨ ∃ hj' : j < ps.length, (ps ++ [p])[j] = ps[j] := fun j hj => by
    by_cases e : j < ps.length
    · exact .inr ⟨e, List.getElem_append_left e⟩
    · have e2 : j = ps.length := by simp at hj; omega
      exact .inl ⟨e2, by subst e2; simp⟩
  constructor
  · rw [List.map_append, List.flatten_append, List.length_append]
    simpa using hown
  · intro j hj
    rcases get j hj with ⟨_, e⟩ | ⟨hj', e⟩
    · rw [e]
      exact hpg
    · rw [e]
      exact (h.page j hj').keepOn (fun q hq _ => ⟨hk j hj' q hq, hq⟩) fun q hq => hq
  · intro j hj q hq
    rcases get j hj with ⟨_, e⟩ | ⟨hj', e⟩
    · rw [e] at hq
      exact hlt q hq
    · rw [e] at hq
      exact Nat.lt_of_lt_of_le (h.lt j hj' q hq) hsz
  · intro a b ha hb hab q hq hq'
    rcases get a ha with ⟨ea, e⟩ | ⟨ha', e⟩ <;> rcases get b hb with ⟨eb, e'⟩ | ⟨hb', e'⟩
    · exact hab (by rw [ea, eb])
    · rw [e] at hq
      rw [e'] at hq'
      exact hd q hq b hb' hq'
    · rw [e] at hq
      rw [e'] at hq'
      exact hd q hq' a ha' hq
    · rw [e] at hq
      rw [e'] at hq'
      exact h.dis a b ha' hb' hab q hq hq'
  · intro j hj q hq hqT
    rcases get j hj with ⟨_, e⟩ | ⟨hj', e⟩
    · rw [e] at hq
      exact (hT q hqT).2 hq
    · rw [e] at hq
      exact (hT q hqT).1 j hj' hq
theorem PagesAt.nil (w : World) : PagesAt mk w e s enc pt (.slice none 0 0) [] where
  own := ⟨rfl, .inl ⟨rfl, rfl⟩⟩
  page := fun j hj => by simp at hj
  lt := fun j hj => by simp at hj
  dis := fun i j hi => by simp at hi
  top := fun j hj => by simp at hj
end
end Go.Proofs.YtplocldnklccfaaGreatDoor
namespace Go.Proofs.YtplocldnklccfaaGreatDoor
open Go.RowKit
set_option linter.unusedVariables false
set_option linter.unusedSimpArgs false

theorem run_append_keeps {P : Program} (w : World) (base : Nat) (t ty e : TypeId) (i : TypeInfo) (z : Value) (size bytes : Nat) (ht : P.underlying t = some (.slice e)) (hi : P.info? e = some i) (hz : i.zero = some z)
    (hsize : i.size = size) (hby : i.bytes = bytes) (hzs : z.cells.size = size) (hsz : 0 < size)
    (v : Value) (n : Nat) (xs : List Value) (hown : w.ownsRow base e size v n xs)
    (a : Addr) (m c : Nat) (news : List Value) (hl : news.length = m * size) (hnews : ∀ j u, news[j]? = some u → w.cell? (a.add j) = some u) (h1 : ∀ u ∈ news, u.oneCell' = true)
    (hm : 0 < m) (h63 : n + m ≤ maxLen) (hbytes : (n + m) * bytes ≤ 140737488355328) (hbase : base ≤ w.heap.size) :
    ∃ g cap w', (Builtin.append_ #[t, t] ty #[v, .slice (some a) m c]).run P w = .ok (.slice (some ⟨g, 0, none⟩) (n + m) cap) w' ∧ w'.ownsRow base e size (.slice (some ⟨g, 0, none⟩) (n + m) cap) (n + m) (xs ++ news) ∧ w.grownBy w' v.ownBlock ∧
      (v.ownBlock = some g ∨ (g = w.heap.size ∧ w.grownBy w' none)) := by
  obtain ⟨g, cap, w', hr, h2, h3, h4, h5⟩ := run_append_lies (P := P) w t ty base e i z size bytes ht hi hz hsize hby hzs hsz v n xs hown a m c news hl hnews h1 hm h63 hbytes hbase w.heap.size rfl
  refine ⟨g, cap, w', hr, h2, h3, ?_⟩
  rcases h4 with h4 | h4
  · exact .inl h4
  · right
    refine ⟨h4, ?_⟩
    rcases hown.2 with ⟨hv, h0⟩ | ⟨b, k, cur, hv, hbb, hb, hnk, hkm, hcs, htk⟩
    · rw [hv] at h3
      exact h3
    · subst hv
      have hbl := (Array.getElem?_eq_some_iff.1 hb).1
      by_cases hroom : n + m ≤ k
      · exfalso
        have hfit : n * i.size + news.length ≤ cur.size := by rw [hl, hcs, hsize, ← Nat.add_mul]; exact Nat.mul_le_mul_right _ hroom
        have hr2 := run_append_room (P := P) w t ty e i ht hi b n k cur hb a m c news (by rw [hsize]; exact hl) hnews h1 hroom hfit
        rw [hr] at hr2
        have he : (Value.slice (some ⟨g, 0, none⟩) (n + m) cap : Value) = .slice (some ⟨b, 0, none⟩) (n + m) k := by injection hr2
        injection he with h6 _ _
        have h7 : g = b := by injection h6 with h6; injection h6
        omega
      · have h64 : n + m ≤ 9223372036854775807 := by unfold maxLen at h63; omega
        have hr2 := run_append_grow (P := P) w t ty e i z ht hi hz ⟨b, 0, none⟩ n k xs (by rw [hsize]; exact hown.1) (hown.cells (g := b) rfl) a m c news (by rw [hsize]; exact hl) hnews (by omega) (by omega) (growslice_fits (by omega) (by rw [hby]; exact hbytes))
        rw [hr] at hr2
        injection hr2 with _ he
        rw [he]
        exact ⟨rfl, rfl, rfl, by simp, fun q hq _ => Below.heap_alloc w.drew _ q hq⟩
theorem wpList_append_keeps {P : Program} {w : World} {ops : Array Oper} {rest : List Oper} {o : Oper} {a : Act} {Q : Exit → Act → World → Prop} (hgd : o.guard = none) (s x : Operand) (t : TypeId)
    (ho : o.op = .call { callee := .builtin .append, args := #[s, x], argTypes := #[t, t] })
    (base : Nat) (e : TypeId) (i : TypeInfo) (z : Value) (size bytes : Nat) (ht : P.underlying t = some (.slice e)) (hi : P.info? e = some i) (hz : i.zero = some z)
    (hsize : i.size = size) (hby : i.bytes = bytes) (hzs : z.cells.size = size) (hsz : 0 < size)
    (v : Value) (n : Nat) (xs : List Value) (hs : a.eval s = v) (hown : w.ownsRow base e size v n xs)
    (ad : Addr) (m c : Nat) (news : List Value) (hx : a.eval x = .slice (some ad) m c) (hl : news.length = m * size) (hnews : ∀ j u, news[j]? = some u → w.cell? (ad.add j) = some u) (h1 : ∀ u ∈ news, u.oneCell' = true)
    (hm : 0 < m) (h63 : n + m ≤ maxLen) (hbytes : (n + m) * bytes ≤ 140737488355328) (hbase : base ≤ w.heap.size)
    (h : ∀ g cap w', w'.ownsRow base e size (.slice (some ⟨g, 0, none⟩) (n + m) cap) (n + m) (xs ++ news) → w.grownBy w' v.ownBlock → (v.ownBlock = some g ∨ (g = w.heap.size ∧ w.grownBy w' none)) → wpList P ops Q rest (a.put o.dst (.slice (some ⟨g, 0, none⟩) (n + m) cap)) w') :
    wpList P ops Q (o :: rest) a w := by
  refine wpList_plain hgd fun K hK => ?_
  obtain ⟨g, cap, w', hr, h2, h3, h4⟩ := run_append_keeps (P := P) w base t o.type e i z size bytes ht hi hz hsize hby hzs hsz v n xs hown ad m c news hl hnews h1 hm h63 hbytes hbase
  unfold Oper.wp execOp
  simp only [ho, resolve, invoke, builtin, Sem.run_bind, Sem.run_pure, Result.andThen_ok, List.map_toArray, List.map_cons, List.map_nil, hs, hx, hr]
  exact hK _ _ (h g cap w' h2 h3 h4)
theorem step_append_keeps {P : Program} {w : World} {ops : Array Oper} {o : Oper} {a : Act} {K : Act → World → Prop} {Q : Exit → Act → World → Prop} {E : Prop} (hgd : o.guard = none) (s x : Operand) (t : TypeId)
    (ho : o.op = .call { callee := .builtin .append, args := #[s, x], argTypes := #[t, t] })
    (base : Nat) (e : TypeId) (i : TypeInfo) (z : Value) (size bytes : Nat) (ht : P.underlying t = some (.slice e)) (hi : P.info? e = some i) (hz : i.zero = some z)
    (hsize : i.size = size) (hby : i.bytes = bytes) (hzs : z.cells.size = size) (hsz : 0 < size)
    (v : Value) (n : Nat) (xs : List Value) (hs : a.eval s = v) (hown : w.ownsRow base e size v n xs)
    (ad : Addr) (m c : Nat) (news : List Value) (hx : a.eval x = .slice (some ad) m c) (hl : news.length = m * size) (hnews : ∀ j u, news[j]? = some u → w.cell? (ad.add j) = some u) (h1 : ∀ u ∈ news, u.oneCell' = true)
    (hm : 0 < m) (h63 : n + m ≤ maxLen) (hbytes : (n + m) * bytes ≤ 140737488355328) (hbase : base ≤ w.heap.size)
    (h : ∀ g cap w', w'.ownsRow base e size (.slice (some ⟨g, 0, none⟩) (n + m) cap) (n + m) (xs ++ news) → w.grownBy w' v.ownBlock → (v.ownBlock = some g ∨ (g = w.heap.size ∧ w.grownBy w' none)) → K (a.put o.dst (.slice (some ⟨g, 0, none⟩) (n + m) cap)) w') :
    if Region.wanted o (yielded ops a.tmps) = true then Oper.wp P o a w K Q else E := by
  have hw : Region.wanted o (yielded ops a.tmps) = true := by simp [Region.wanted, hgd]
  rw [if_pos hw]
  obtain ⟨g, cap, w', hr, h2, h3, h4⟩ := run_append_keeps (P := P) w base t o.type e i z size bytes ht hi hz hsize hby hzs hsz v n xs hown ad m c news hl hnews h1 hm h63 hbytes hbase
  unfold Oper.wp execOp
  simp only [ho, resolve, invoke, builtin, Sem.run_bind, Sem.run_pure, Result.andThen_ok, List.map_toArray, List.map_cons, List.map_nil, hs, hx, hr]
  exact h g cap w' h2 h3 h4
/-- The row that was appended to still shows what it showed. -/
theorem head_stays {w w' : World} {R : Nat → Prop} {e s n m c cap g : Nat} {A : Option Addr} {xs : List (List Value)} {ys : List Value} {v : Value} {B : Nat} (hL : RowAt w R s (.slice A xs.length c) xs) (hs : ∀ x ∈ xs, x.length = s)
    (hn : n = xs.length + m) (hown : w'.ownsRow B e s (.slice (some ⟨g, 0, none⟩) n cap) n (xs.flatten ++ ys)) (hgr : w.grownBy w' v.ownBlock) (hat : v.ownBlock = some g ∨ (g = w.heap.size ∧ w.grownBy w' none))
    (hv : ∀ q, v.ownBlock = some q → (∀ ad, A = some ad → ad.block = q → ad = ⟨q, 0, none⟩)) : RowAt w' R s (.slice A xs.length c) xs := by
  obtain ⟨A', c', hf, hx⟩ := hL
  injection hf with h1 _ h2
  subst h1 h2
  refine ⟨A, c, rfl, fun j hj => ?_⟩
  obtain ⟨ad, e1, hl, hR, hc⟩ := hx j hj
  have keep : ∀ (row : Option Nat), w.grownBy w' row → (∀ q, row = some q → ad.block ≠ q) → ∃ ad, A = some ad ∧ ad.block < w'.heap.size ∧ R ad.block ∧ ∀ i u, xs[j][i]? = some u → w'.cell? ((ad.add (j * s)).add i) = some u := fun row hg hne =>
    ⟨ad, e1, by have := hg.size; omega, hR, fun i u hu => by
      rw [← hc i u hu]
      exact World.cell?_of_block (by rw [block_add, block_add]; exact hg.block _ hl fun e => hne _ e.symm rfl)⟩
  rcases hat with hat | ⟨_, hat⟩
  · by_cases hb : ad.block = g
    · have had := hv g hat ad e1 hb
      subst had
      refine ⟨⟨g, 0, none⟩, e1, (hown.lt g rfl).2, hR, fun i u hu => ?_⟩
      have hi : i < s := by rw [← hs _ (List.getElem_mem hj)]; exact (List.getElem?_eq_some_iff.1 hu).1
      have hlf : xs.flatten[j * s + i]? = some u := by
        have h3 : ∀ (ys : List (List Value)), (∀ x ∈ ys, x.length = s) → ∀ j (hj : j < ys.length) i u, ys[j][i]? = some u → ys.flatten[j * s + i]? = some u := fun ys h => flat_get ys h
        exact h3 xs hs j hj i u hu
      have := hown.cells (g := g) rfl (j * s + i) u (by rw [List.getElem?_append_left (List.getElem?_eq_some_iff.1 hlf).1]; exact hlf)
      rw [Addr.add_lit] at this
      rw [Addr.add_lit, Addr.add_lit]
      simpa [Nat.add_assoc] using this
    · exact keep _ hgr fun q e => by rw [hat] at e; obtain rfl : g = q := Option.some.inj e; exact hb
  · exact keep _ hat fun q e => by cases e
end Go.Proofs.YtplocldnklccfaaGreatDoor
