/- Words on memory: what may have changed between two worlds; maps keyed by strings as lists of pairs. -/
import Derived.Below
import Derived.WideMake
import Derived.Maps.OwnOps
import Derived.Tactics2
import Derived.WalkKit
import Derived.Deep.Draws
import Derived.RangeFuncRecord
import Derived.MapKept
namespace Go.Proofs.YthbiepgpflpfoaaDoor
open Go.RowKit
set_option linter.unusedVariables false
set_option linter.unusedSimpArgs false

/-- Of what was there, blocks of F alone may have turned. -/
structure Ch (F : Nat → Prop) (w w' : World) : Prop where
  os : w'.os = w.os
  tape : w'.tape = w.tape
  output : w'.output = w.output
  size : w.heap.size ≤ w'.heap.size
  block : ∀ k, k < w.heap.size → ¬ F k → w'.heap[k]? = w.heap[k]?

theorem Ch.refl (F : Nat → Prop) (w : World) : Ch F w w := ⟨rfl, rfl, rfl, Nat.le_refl _, fun _ _ _ => rfl⟩
theorem Ch.mono {F G : Nat → Prop} {w w' : World} (h : Ch F w w') (hg : ∀ k, F k → G k) : Ch G w w' := ⟨h.os, h.tape, h.output, h.size, fun k hk hn => h.block k hk fun hf => hn (hg k hf)⟩
theorem Ch.trans {F G : Nat → Prop} {a b c : World} (h : Ch F a b) (k : Ch G b c) (hG : ∀ i, G i → F i ∨ a.heap.size ≤ i) : Ch F a c :=
  ⟨k.os.trans h.os, k.tape.trans h.tape, k.output.trans h.output, Nat.le_trans h.size k.size, fun i hi hn =>
    (k.block i (Nat.lt_of_lt_of_le hi h.size) fun hg => by rcases hG i hg with h | h; exact hn h; omega).trans (h.block i hi hn)⟩
theorem Ch.trans' {F : Nat → Prop} {a b c : World} (h : Ch F a b) (k : Ch F b c) : Ch F a c := h.trans k fun _ h => .inl h
theorem Ch.drew {F : Nat → Prop} {a w : World} (h : Ch F a w) : Ch F a w.drew := ⟨h.os, h.tape, h.output, h.size, h.block⟩
theorem Ch.drewN {F : Nat → Prop} {a w : World} (h : Ch F a w) (n : Nat) : Ch F a (w.drewN n) := ⟨h.os, h.tape, h.output, h.size, h.block⟩
theorem Ch.alloc {F : Nat → Prop} {a w : World} (h : Ch F a w) (o : Obj) : Ch F a (w.alloc o) :=
  h.trans' ⟨rfl, rfl, rfl, by simp, fun k hk _ => Below.heap_alloc _ _ _ hk⟩
theorem Ch.setCell {F : Nat → Prop} {a w : World} (h : Ch F a w) {p : Addr} (hp : F p.block ∨ a.heap.size ≤ p.block) (u : Value) : Ch F a (w.setCell p u) :=
  h.trans (G := fun k => k = p.block) ⟨rfl, rfl, rfl, by simp [World.setCell], fun k hk hn => Below.heap_setCell _ _ _ _ hn⟩ fun i hi => by subst hi; exact hp
theorem Ch.putObj {F : Nat → Prop} {a w : World} (h : Ch F a w) {b : Nat} (hp : F b ∨ a.heap.size ≤ b) (o : Obj) : Ch F a (w.putObj b o) :=
  h.trans (G := fun k => k = b) ⟨rfl, rfl, rfl, by simp [World.putObj], fun k hk hn => by simp [World.putObj, Array.getElem?_setIfInBounds, Ne.symm hn]⟩ fun i hi => by subst hi; exact hp
theorem Ch.below {F : Nat → Prop} {a w w' : World} (h : Ch F a w) (k : Below w.heap.size w w') : Ch F a w' :=
  h.trans' ⟨k.os, k.tape, k.output, k.size, fun i hi _ => k.block i hi⟩
theorem Ch.of_below {F : Nat → Prop} {w w' : World} (k : Below w.heap.size w w') : Ch F w w' := (Ch.refl F w).below k
theorem Ch.grown {F : Nat → Prop} {a w w' : World} {row : Option Nat} (h : Ch F a w) (hg : w.grownBy w' row) (hr : ∀ k, row = some k → F k ∨ a.heap.size ≤ k) : Ch F a w' :=
  h.trans (G := fun k => row = some k) ⟨hg.os, hg.tape, hg.output, hg.size, fun k hk hn => hg.block k hk fun e => hn e.symm⟩ hr
theorem Ch.toBelow {F : Nat → Prop} {w w' : World} (h : Ch F w w') {B : Nat} (hB : B ≤ w.heap.size) (hF : ∀ k, F k → B ≤ k) : Below B w w' :=
  ⟨h.os, h.tape, h.output, h.size, fun k hk => h.block k (by omega) fun hf => by have := hF k hf; omega⟩

theorem heap_lt {w : World} {k : Nat} {o : Obj} (h : w.heap[k]? = some o) : k < w.heap.size := (Array.getElem?_eq_some_iff.1 h).1
theorem heap_setCell_same {w : World} {b i : Nat} {cs : Array Value} {t : TypeId} {fr : Nat × Nat} (h : w.heap[b]? = some (.cells cs t fr)) (v : Value) :
    (w.setCell ⟨b, i, none⟩ v).heap[b]? = some (.cells (cs.setIfInBounds i v) t fr) := by
  simp [World.setCell, Array.getElem?_modify, h]
theorem heap_putObj_same {w : World} {b : Nat} {o : Obj} (h : w.heap[b]? = some o) (o' : Obj) : (w.putObj b o').heap[b]? = some o' := by
  have := heap_lt h
  simp [World.putObj, Array.getElem?_setIfInBounds, this]
theorem heap_putObj_other {w : World} {b k : Nat} (o' : Obj) (h : k ≠ b) : (w.putObj b o').heap[k]? = w.heap[k]? := by
  simp [World.putObj, Array.getElem?_setIfInBounds, Ne.symm h]

/-- A map keyed by strings: its entries as pairs, in the order in which they came. -/
def StrMap (w : World) (b : Nat) (ps : List (ByteArray × Value)) : Prop :=
  ∃ (es : Array MapEntry) (clock : Nat), w.heap[b]? = some (.map es clock) ∧ es.toList.map (fun e => (e.key, e.val)) = ps.map fun p => (Value.string p.1, p.2)

theorem StrMap.lt {w : World} {b : Nat} {ps : List (ByteArray × Value)} (h : StrMap w b ps) : b < w.heap.size := by
  obtain ⟨_, _, h, _⟩ := h
  exact heap_lt h
theorem StrMap.keep {w w' : World} {b : Nat} {ps : List (ByteArray × Value)} (h : StrMap w b ps) (he : w'.heap[b]? = w.heap[b]?) : StrMap w' b ps := by
  obtain ⟨es, c, h1, h2⟩ := h
  exact ⟨es, c, he.trans h1, h2⟩

theorem beq_bytes (a b : ByteArray) : (a == b) = decide (a = b) := by
  cases a with
  | mk x => cases b with
    | mk y =>
      show (x == y) = _
      by_cases h : x = y
      · subst h; simp
      · simp [h]

/-- What a list of pairs gives at a key. -/
def getP (k : ByteArray) : List (ByteArray × Value) → Option Value
  | [] => none
  | p :: ps => if k = p.1 then some p.2 else getP k ps

theorem getP_append (k : ByteArray) (ps qs : List (ByteArray × Value)) : getP k (ps ++ qs) = (getP k ps).or (getP k qs) := by
  induction ps with
  | nil => rfl
  | cons p ps ih =>
    simp only [List.cons_append, getP]
    by_cases h : k = p.1
    · simp [h]
    · simp [h, ih]

theorem findNow_str (k : ByteArray) : ∀ (ps : List (ByteArray × Value)) (es : List MapEntry) (i : Nat), es.map (fun e => (e.key, e.val)) = ps.map (fun p => (Value.string p.1, p.2)) →
    ∃ r, Instr.findNow .string (.string k) es i = some r ∧ r.map (·.2) = getP k ps
  | [], es, i, h => by
    have : es = [] := by simpa using h
    subst this
    exact ⟨none, rfl, rfl⟩
  | p :: ps, [], i, h => by simp at h
  | p :: ps, e :: es, i, h => by
    simp only [List.map_cons, List.cons.injEq, Prod.mk.injEq] at h
    obtain ⟨⟨h1, h2⟩, h3⟩ := h
    obtain ⟨r, hr, hl⟩ := findNow_str k ps es (i + 1) h3
    by_cases hk : k = p.1
    · refine ⟨some (i, e.val), ?_, ?_⟩
      · simp [Instr.findNow, h1, Instr.sameNow, beq_bytes, hk]
      · simp [getP, hk, h2]
    · refine ⟨r, ?_, ?_⟩
      · simp [Instr.findNow, h1, Instr.sameNow, beq_bytes, hk, hr]
      · rw [hl]
        simp [getP, hk]

section
variable {P : Program}
theorem checkKey_str {K : TypeId} (hK : P.underlying K = some .string) (e : Bool) (k : ByteArray) (w : World) : (Instr.checkKey e 10000 K (.string k)).run P w = .ok () w :=
  MapKept.run_checkKey hK (d := .string) (k := .string k) trivial e 9999

theorem run_lookup_strmap {w : World} {b : Nat} {ps : List (ByteArray × Value)} (h : StrMap w b ps) {T K E : TypeId} (hT : P.underlying T = some (.map K E)) (hK : P.underlying K = some .string)
    {z : Value} (hz : ∀ w, (zeroValue E).run P w = .ok z w) (k : ByteArray) :
    Sem.run P (Instr.lookup T (.map (some b)) (.string k) false) w = .ok ((getP k ps).getD z) w := by
  obtain ⟨es, c, h1, h2⟩ := h
  obtain ⟨r, hr, hl⟩ := findNow_str k ps es.toList 0 h2
  have hck := fun e => checkKey_str hK e k w
  unfold Instr.lookup
  cases r with
  | none =>
    have hl' : getP k ps = none := by simpa using hl.symm
    simp [run_underlying hT, run_underlying hK, MapKept.run_getObj_map h1, hck, Instr.findKey, hr, hl', hz]
  | some x =>
    have hl' : getP k ps = some x.2 := by simpa using hl.symm
    simp [run_underlying hT, run_underlying hK, MapKept.run_getObj_map h1, hck, Instr.findKey, hr, hl']

theorem run_update_strmap {w : World} {b : Nat} {ps : List (ByteArray × Value)} (h : StrMap w b ps) {T K E : TypeId} (hT : P.underlying T = some (.map K E)) (hK : P.underlying K = some .string)
    (k : ByteArray) (v : Value) (hnew : getP k ps = none) :
    ∃ o, Sem.run P (Instr.mapUpdate T (.map (some b)) (.string k) v) w = .ok () (w.putObj b o) ∧ StrMap (w.putObj b o) b (ps ++ [(k, v)]) := by
  obtain ⟨es, c, h1, h2⟩ := h
  obtain ⟨r, hr, hl⟩ := findNow_str k ps es.toList 0 h2
  rw [hnew] at hl
  have : r = none := by simpa using hl
  subst this
  have hck := fun e => checkKey_str hK e k w
  refine ⟨.map (es.push { key := .string k, val := v, born := c }) (c + 1), ?_, es.push { key := .string k, val := v, born := c }, c + 1, heap_putObj_same h1 _, ?_⟩
  · unfold Instr.mapUpdate
    simp [run_underlying hT, run_underlying hK, MapKept.run_getObj_map h1, hck, Instr.findKey, hr, World.putObj, MapKept.run_setObj_map _ h1]
  · simp [h2]
end
end Go.Proofs.YthbiepgpflpfoaaDoor
