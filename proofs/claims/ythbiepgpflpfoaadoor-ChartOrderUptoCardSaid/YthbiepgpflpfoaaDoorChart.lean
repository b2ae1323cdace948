/- What a chart is, in plain words, and how it lies in memory. -/
import Derived.Test.YthbiepgpflpfoaaDoorMem
import Derived.Test.YthbiepgpflpfoaaDoorPart
import Derived.Lib.LastIndexByte
namespace Go.Proofs.YthbiepgpflpfoaaDoor
open Go.RowKit
set_option linter.unusedVariables false
set_option linter.unusedSimpArgs false

structure Acct where
  name : ByteArray
  typ : Int
  opened : Int
  closed : Bool

/-- What stands above a name. -/
def parentF (n : ByteArray) : Option ByteArray :=
  if goodB n.data.toList = true ∧ 0 ≤ Lib.lastIndexByte n 58 then some (n.extract 0 (Lib.lastIndexByte n 58).toNat) else none

def findA (L : List Acct) (n : ByteArray) : Option Acct := L.find? fun a => decide (a.name = n)
def kidsA (L : List Acct) (n : ByteArray) : List Acct := L.filter fun a => decide (parentF a.name = some n)
def rootsA (L : List Acct) : List Acct := L.filter fun a => decide (parentF a.name = none)

theorem findA_some {L : List Acct} {n : ByteArray} {a : Acct} (h : findA L n = some a) : a ∈ L ∧ a.name = n := by
  unfold findA at h
  exact ⟨List.mem_of_find?_eq_some h, by simpa using List.find?_some h⟩

def ptrV (b : Nat) : Value := .pointer (some ⟨b, 0, none⟩)

/-- How a chart lies in memory: mb the map's block, rv the list of roots, nb an account's block, kv the list of those right below it, ps the map's entries; F holds all blocks of the chart. -/
structure CR (w : World) (F : Nat → Prop) (cb : Nat) (L : List Acct) (mb : Nat) (rv : Value) (nb : ByteArray → Nat) (kv : ByteArray → Value) (ps : List (ByteArray × Value)) : Prop where
  hC : w.heap[cb]? = some (.cells #[.map (some mb), rv] 59 (0, 0))
  hM : StrMap w mb ps
  hps : ∀ k, getP k ps = (findA L k).map fun a => ptrV (nb a.name)
  hlen : ps.length = L.length
  le : L.length ≤ 100
  hN : ∀ a ∈ L, w.heap[nb a.name]? = some (.cells #[.string a.name, .int .i64 a.typ, .int .i64 a.opened, .bool a.closed, kv a.name] 67 (0, 0))
  hK : ∀ a ∈ L, w.ownsRow 0 65 1 (kv a.name) (kidsA L a.name).length ((kidsA L a.name).map fun b => ptrV (nb b.name))
  hR : w.ownsRow 0 65 1 rv (rootsA L).length ((rootsA L).map fun b => ptrV (nb b.name))
  fC : F cb
  fM : F mb
  fN : ∀ a ∈ L, F (nb a.name)
  fK : ∀ a ∈ L, ∀ k, (kv a.name).ownBlock = some k → F k
  fR : ∀ k, rv.ownBlock = some k → F k
  inj : ∀ a ∈ L, ∀ b ∈ L, nb a.name = nb b.name → a.name = b.name
  dK : ∀ a ∈ L, ∀ b ∈ L, a.name ≠ b.name → ∀ k, (kv a.name).ownBlock = some k → (kv b.name).ownBlock ≠ some k
  dR : ∀ a ∈ L, ∀ k, (kv a.name).ownBlock = some k → rv.ownBlock ≠ some k

structure ChartAt (w : World) (F : Nat → Prop) (cb : Nat) (L : List Acct) : Prop where
  ex : ∃ mb rv nb kv ps, CR w F cb L mb rv nb kv ps

theorem ownsRow_keep {w w' : World} {B e size n : Nat} {v : Value} {xs : List Value} (h : w.ownsRow B e size v n xs) (hk : ∀ k, v.ownBlock = some k → w'.heap[k]? = w.heap[k]?) : w'.ownsRow B e size v n xs := by
  refine ⟨h.1, ?_⟩
  rcases h.2 with hn | ⟨g, cap, cur, rfl, hb, hg, r⟩
  · exact .inl hn
  · exact .inr ⟨g, cap, cur, rfl, hb, (hk g rfl).trans hg, r⟩

/-- What is not touched lives on. -/
theorem CR.keep {w w' : World} {F : Nat → Prop} {cb mb : Nat} {L : List Acct} {rv : Value} {nb : ByteArray → Nat} {kv : ByteArray → Value} {ps : List (ByteArray × Value)}
    (h : CR w F cb L mb rv nb kv ps) (hk : ∀ k, F k → k < w.heap.size → w'.heap[k]? = w.heap[k]?) : CR w' F cb L mb rv nb kv ps where
  hC := (hk cb h.fC (heap_lt h.hC)).trans h.hC
  hM := h.hM.keep (hk mb h.fM h.hM.lt)
  hps := h.hps
  hlen := h.hlen
  le := h.le
  hN := fun a ha => (hk _ (h.fN a ha) (heap_lt (h.hN a ha))).trans (h.hN a ha)
  hK := fun a ha => ownsRow_keep (h.hK a ha) fun k e => hk k (h.fK a ha k e) ((h.hK a ha).lt k e).2
  hR := ownsRow_keep h.hR fun k e => hk k (h.fR k e) (h.hR.lt k e).2
  fC := h.fC
  fM := h.fM
  fN := h.fN
  fK := h.fK
  fR := h.fR
  inj := h.inj
  dK := h.dK
  dR := h.dR
theorem ChartAt.keep {w w' : World} {F : Nat → Prop} {cb : Nat} {L : List Acct} (h : ChartAt w F cb L) (hk : ∀ k, F k → k < w.heap.size → w'.heap[k]? = w.heap[k]?) : ChartAt w' F cb L := by
  obtain ⟨mb, rv, nb, kv, ps, h⟩ := h
  exact ⟨mb, rv, nb, kv, ps, h.keep hk⟩
theorem ChartAt.ch {w w' : World} {F G : Nat → Prop} {cb : Nat} {L : List Acct} (h : ChartAt w F cb L) (hc : Ch G w w') (hd : ∀ k, F k → ¬ G k) : ChartAt w' F cb L :=
  h.keep fun k hf hl => hc.block k hl (hd k hf)
theorem ChartAt.below {w w' : World} {F : Nat → Prop} {cb : Nat} {L : List Acct} (h : ChartAt w F cb L) (hb : Below w.heap.size w w') : ChartAt w' F cb L :=
  h.keep fun k hf hl => hb.block k hl

theorem CR.lookup {w : World} {F : Nat → Prop} {cb mb : Nat} {L : List Acct} {rv : Value} {nb : ByteArray → Nat} {kv : ByteArray → Value} {ps : List (ByteArray × Value)}
    (h : CR w F cb L mb rv nb kv ps) (n : ByteArray) :
    Sem.run Tryd.prog (Instr.lookup 56 (.map (some mb)) (.string n) false) w = .ok (match findA L n with | some a => ptrV (nb a.name) | none => .pointer none) w := by
  rw [run_lookup_strmap h.hM Tryd.underlying56 Tryd.underlying9 Tryd.zeroValue65 n, h.hps n]
  cases findA L n <;> rfl
end Go.Proofs.YthbiepgpflpfoaaDoor
