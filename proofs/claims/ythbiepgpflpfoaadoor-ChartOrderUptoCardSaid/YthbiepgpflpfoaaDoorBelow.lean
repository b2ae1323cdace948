/- below: a list of accounts, each with all that is below it behind it. -/
import Derived.Test.YthbiepgpflpfoaaDoorIter
import Derived.Test.YthbiepgpflpfoaaDoorChart
import Derived.Test.YthbiepgpflpfoaaDoorMay
import Derived.Shelf.Abstract
import Derived.Shelf.RegionOpen
import Derived.WalkKit
import Derived.OwnWalkIn
import Derived.TacticsInMore
import Derived.LoopNIn
import Derived.LoopIn
namespace Go.Proofs.YthbiepgpflpfoaaDoor
open Go.RowKit Go.Shelf
set_option linter.unusedVariables false
set_option linter.unusedSimpArgs false
attribute [local go_sem] Oper.semAt_some

/-- A list of accounts, each with all below it behind it, so many steps deep. -/
def preL (L : List Acct) : Nat → List Acct → List Acct
  | 0, _ => []
  | d + 1, l => l.flatMap fun a => a :: preL L d (kidsA L a.name)

/-- A row of pointers to accounts lies below n₀. -/
structure RowOK (n₀ : Nat) (w : World) (nb : ByteArray → Nat) (v : Value) (l : List Acct) : Prop where
  ex : ∃ A c, v = .slice A l.length c ∧ ∀ j (hj : j < l.length), ∃ ad, A = some ad ∧ ad.block < n₀ ∧ w.cell? (ad.add j) = some (ptrV (nb l[j].name))

structure ForestAt (n₀ : Nat) (w : World) (nb : ByteArray → Nat) (kv : ByteArray → Value) (L : List Acct) : Prop where
  lt : ∀ a ∈ L, nb a.name < n₀
  c0 : ∀ a ∈ L, w.cell? ⟨nb a.name, 0, none⟩ = some (.string a.name)
  c1 : ∀ a ∈ L, w.cell? ⟨nb a.name, 1, none⟩ = some (.int .i64 a.typ)
  c2 : ∀ a ∈ L, w.cell? ⟨nb a.name, 2, none⟩ = some (.int .i64 a.opened)
  c3 : ∀ a ∈ L, w.cell? ⟨nb a.name, 3, none⟩ = some (.bool a.closed)
  c4 : ∀ a ∈ L, w.cell? ⟨nb a.name, 4, none⟩ = some (kv a.name)
  kids : ∀ a ∈ L, RowOK n₀ w nb (kv a.name) (kidsA L a.name)

theorem block_add (ad : Addr) (j : Nat) : (ad.add j).block = ad.block := by unfold Addr.add; split <;> rfl

theorem RowOK.below {n₀ : Nat} {w w' : World} {nb : ByteArray → Nat} {v : Value} {l : List Acct} (h : RowOK n₀ w nb v l) (hb : Below n₀ w w') : RowOK n₀ w' nb v l := by
  obtain ⟨A, c, e, hA⟩ := h
  refine ⟨A, c, e, fun j hj => ?_⟩
  obtain ⟨ad, h1, h2, h3⟩ := hA j hj
  exact ⟨ad, h1, h2, (hb.cell (p := ad.add j) (by rw [block_add]; exact h2)).trans h3⟩
theorem ForestAt.below {n₀ : Nat} {w w' : World} {nb : ByteArray → Nat} {kv : ByteArray → Value} {L : List Acct} (h : ForestAt n₀ w nb kv L) (hb : Below n₀ w w') : ForestAt n₀ w' nb kv L where
  lt := h.lt
  c0 := fun a ha => (hb.cell (p := ⟨nb a.name, 0, none⟩) (h.lt a ha)).trans (h.c0 a ha)
  c1 := fun a ha => (hb.cell (p := ⟨nb a.name, 1, none⟩) (h.lt a ha)).trans (h.c1 a ha)
  c2 := fun a ha => (hb.cell (p := ⟨nb a.name, 2, none⟩) (h.lt a ha)).trans (h.c2 a ha)
  c3 := fun a ha => (hb.cell (p := ⟨nb a.name, 3, none⟩) (h.lt a ha)).trans (h.c3 a ha)
  c4 := fun a ha => (hb.cell (p := ⟨nb a.name, 4, none⟩) (h.lt a ha)).trans (h.c4 a ha)
  kids := fun a ha => (h.kids a ha).below hb

theorem CR.forest {w : World} {F : Nat → Prop} {cb mb : Nat} {L : List Acct} {rv : Value} {nb : ByteArray → Nat} {kv : ByteArray → Value} {ps : List (ByteArray × Value)}
    (h : CR w F cb L mb rv nb kv ps) : ForestAt w.heap.size w nb kv L ∧ RowOK w.heap.size w nb rv (rootsA L) := by
  have row : ∀ {v : Value} {l : List Acct}, w.ownsRow 0 65 1 v l.length (l.map fun b => ptrV (nb b.name)) → RowOK w.heap.size w nb v l := by
    intro v l ho
    rcases ho.2 with ⟨rfl, hn⟩ | ⟨g, cap, cur, rfl, hb, hg, r⟩
    · exact ⟨none, 0, by rw [hn], fun j hj => by omega⟩
    · exact ⟨_, cap, rfl, fun j hj => ⟨_, rfl, heap_lt hg, ho.cells (g := g) rfl j _ (by simp [hj])⟩⟩
  refine ⟨⟨fun a ha => heap_lt (h.hN a ha), ?_, ?_, ?_, ?_, ?_, fun a ha => row (h.hK a ha)⟩, row h.hR⟩
  all_goals intro a ha; rw [cell_of_blk (h.hN a ha)]; rfl

set_option maxHeartbeats 1000000 in
theorem below_in (F : Fence) (n : Nat) (h22 : F.fn 22) (hro : F.round = none) (A : Option Addr) (m c : Nat) (w : World) :
    CallsIn F n Tryd.prog 22 #[.slice A m c] w fun e w' => e = .returned (.func (.func 32) #[] #[.pointer (some ⟨w.heap.size, 0, none⟩)]) ∧ w' = w.alloc (.cells #[.slice A m c] 57) := by
  refine callsIn_of_wp Tryd.func22 rfl h22 ?_ hro
  simp only [Tryd.ntmps22, List.size_toArray, List.length_cons, List.length_nil, Nat.reduceAdd, Nat.reduceSub, Array.replicate_succ, Array.replicate_zero, List.push_toArray, List.append_toArray, List.nil_append, List.cons_append]
  gi_wp2
  go_ret
  exact ⟨rfl, rfl⟩
end Go.Proofs.YthbiepgpflpfoaaDoor
