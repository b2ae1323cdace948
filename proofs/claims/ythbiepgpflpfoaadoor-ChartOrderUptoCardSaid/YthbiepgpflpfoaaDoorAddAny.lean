/- add over charts: the list of accounts has one more. -/
import Derived.Test.YthbiepgpflpfoaaDoorAdd
namespace Go.Proofs.YthbiepgpflpfoaaDoor
open Go.RowKit
set_option linter.unusedVariables false
set_option linter.unusedSimpArgs false

/-- What a call that changes a chart leaves. -/
structure MutPost (F : Nat → Prop) (cb : Nat) (L : List Acct) (v : Value) (w : World) (e : Ending) (w' : World) : Prop where
  ret : e = .returned v
  ex : ∃ F', ChartAt w' F' cb L ∧ Ch F w w' ∧ (∀ k, F' k → F k ∨ (w.heap.size ≤ k ∧ k < w'.heap.size))

/-- The pointers of a rising list with one more, where put has laid it. -/
theorem put_list (M : List Acct) (a : Acct) (nb : ByteArray → Nat) (b i : Nat) (hi : i ≤ M.length) (hM : ∀ x ∈ M, x.name ≠ a.name)
    (h1 : ∀ j (hj : j < (M.map (·.name)).length), j < i → cmpB (M.map (·.name))[j] a.name < 0) (h2 : ∀ j (hj : j < (M.map (·.name)).length), i ≤ j → 0 ≤ cmpB (M.map (·.name))[j] a.name) :
    ((M.map (·.name)).map fun s => ptrV (nb s)).take i ++ ptrV b :: ((M.map (·.name)).map fun s => ptrV (nb s)).drop i = (insA a M).map fun x => ptrV (if x.name = a.name then b else nb x.name) := by
  have hins := insA_at a M i hi (fun j hj hlt => by have := h1 j (by rw [List.length_map]; exact hj) hlt; rw [List.getElem_map] at this; exact this) (fun j hj hle => by have := h2 j (by rw [List.length_map]; exact hj) hle; rw [List.getElem_map] at this; exact this)
  rw [hins, List.map_append, List.map_cons, if_pos rfl, ← List.map_take, ← List.map_drop, ← List.map_take, ← List.map_drop, List.map_map, List.map_map]
  congr 1
  · apply List.map_congr_left
    intro x hx
    have := hM x (List.mem_of_mem_take hx)
    simp [this]
  · congr 1
    apply List.map_congr_left
    intro x hx
    have := hM x (List.mem_of_mem_drop hx)
    simp [this]

/-- What is known behind add, whichever list it went to: sb the block that holds the list's value, at place ix; M the list. -/
structure AddMem (w w' : World) (mb sb ix : Nat) (v : Value) (M : List Acct) (a : Acct) (nb : ByteArray → Nat) (o : Obj) : Prop where
  ex : ∃ v', w'.ownsRow 0 65 1 v' (insA a M).length ((insA a M).map fun x => ptrV (if x.name = a.name then w.heap.size + 1 else nb x.name)) ∧
    (v'.ownBlock = v.ownBlock ∨ ∃ k, v'.ownBlock = some k ∧ w.heap.size + 2 ≤ k) ∧
    (∀ k, k < w.heap.size → k ≠ mb → k ≠ sb → some k ≠ v.ownBlock → w'.heap[k]? = w.heap[k]?) ∧
    w'.heap[mb]? = some o ∧ w'.heap[w.heap.size + 1]? = some (.cells #[.string a.name, .int .i64 a.typ, .int .i64 a.opened, .bool a.closed, .slice none 0 0] 67 (0, 0)) ∧
    (∀ cs t, w.heap[sb]? = some (.cells cs t (0, 0)) → w'.heap[sb]? = some (.cells (cs.setIfInBounds ix v') t (0, 0))) ∧
    w'.os = w.os ∧ w'.tape = w.tape ∧ w'.output = w.output ∧ w.heap.size + 2 ≤ w'.heap.size

theorem add_mem (w W1 W2 : World) (mb sb ix : Nat) (v : Value) (M : List Acct) (a : Acct) (nb : ByteArray → Nat) (o : Obj) (e : Ending) (w' : World)
    (hW1 : W1 = ((w.alloc (.cells #[.string a.name, .int .i64 a.typ, .int .i64 a.opened, .bool a.closed] 35)).alloc (.cells #[.string a.name, .int .i64 a.typ, .int .i64 a.opened, .bool a.closed, .slice none 0 0] 67)).drew) (hW2 : W2 = W1.putObj mb o)
    (hm : mb < w.heap.size) (hs : sb < w.heap.size) (hms : mb ≠ sb) (hmv : some mb ≠ v.ownBlock) (hsv : some sb ≠ v.ownBlock) (hvl : ∀ k, v.ownBlock = some k → k < w.heap.size) (hM : ∀ x ∈ M, x.name ≠ a.name)
    (h : AddEnd (M.map (·.name)) ((M.map (·.name)).map fun s => .pointer (some ⟨nb s, 0, none⟩)) a.name (.pointer (some ⟨w.heap.size + 1, 0, none⟩)) W2 v ⟨sb, ix, none⟩ e w') :
    e = .returned (.tuple #[]) ∧ AddMem w w' mb sb ix v M a nb o := by
  obtain ⟨hret, W3, w4, v', hb, ⟨i, v'', hi, h1, h2, hv, hown, hg, hat⟩, hw'⟩ := h
  obtain rfl : v' = v'' := by injection hv
  have e2s : W2.heap.size = w.heap.size + 2 := by rw [hW2, hW1]; simp [World.putObj]
  have e1 : ∀ k, k < w.heap.size → W1.heap[k]? = w.heap[k]? := fun k hk => by
    rw [hW1]
    exact (Below.heap_alloc _ _ k (by simp; omega)).trans (Below.heap_alloc _ _ k hk)
  have e2 : ∀ k, k < w.heap.size → k ≠ mb → W2.heap[k]? = w.heap[k]? := fun k hk hkm => by
    rw [hW2, heap_putObj_other _ hkm]
    exact e1 k hk
  have e2m : W2.heap[mb]? = some o := by
    have hmb : mb < W1.heap.size := by rw [hW1]; simp; omega
    rw [hW2]
    simp [World.putObj, Array.getElem?_setIfInBounds, hmb]
  have e2n : W2.heap[w.heap.size + 1]? = some (.cells #[.string a.name, .int .i64 a.typ, .int .i64 a.opened, .bool a.closed, .slice none 0 0] 67 (0, 0)) := by
    rw [hW2, heap_putObj_other _ (by omega), hW1]
    have := heap_alloc_new (w.alloc (.cells #[.string a.name, .int .i64 a.typ, .int .i64 a.opened, .bool a.closed] 35)) (.cells #[.string a.name, .int .i64 a.typ, .int .i64 a.opened, .bool a.closed, .slice none 0 0] 67)
    rw [World.size_alloc] at this
    exact this
  have h3s := hb.size
  have h4 : ∀ k, k < W2.heap.size → some k ≠ v.ownBlock → w4.heap[k]? = W2.heap[k]? := fun k hk hkv => (hg.block k (by omega) hkv).trans (hb.block k hk)
  have h5 : ∀ k, k < W2.heap.size → some k ≠ v.ownBlock → k ≠ sb → w'.heap[k]? = W2.heap[k]? := fun k hk hkv hks => by
    rw [hw', Below.heap_setCell _ _ _ _ hks]
    exact h4 k hk hkv
  have hlt : ∀ k, w.heap.size ≤ k → some k ≠ v.ownBlock := fun k hk e => by have := hvl k e.symm; omega
  have hl : (M.map (·.name)).length = M.length := List.length_map _
  refine ⟨hret, v', ?_, ?_, ?_, ?_, ?_, ?_, ?_, ?_, ?_, ?_⟩
  · have hpl := put_list M a nb (w.heap.size + 1) i (by omega) hM h1 h2
    unfold ptrV at hpl
    rw [hpl] at hown
    rw [length_insA, ← hl]
    refine ownsRow_keep hown fun k hk => ?_
    rw [hw', Below.heap_setCell]
    intro e
    subst e
    rcases hat with h | ⟨j, h, hj⟩
    · exact hsv (hk.symm.trans h).symm.symm
    · rw [h] at hk; injection hk with hk; omega
  · rcases hat with h | ⟨j, h, hj⟩
    · exact .inl h
    · exact .inr ⟨j, h, by omega⟩
  · intro k hk hkm hks hkv
    rw [h5 k (by omega) hkv hks, e2 k hk hkm]
  · rw [h5 mb (by omega) hmv hms, e2m]
  · rw [h5 _ (by omega) (hlt _ (by omega)) (by omega), e2n]
  · intro cs t hcs
    rw [hw']
    refine heap_setCell_same ?_ v'
    rw [h4 sb (by omega) hsv, e2 sb hs hms.symm, hcs]
  · rw [hw']; show w4.os = _; rw [hg.os, hb.os, hW2, hW1]; rfl
  · rw [hw']; show w4.tape = _; rw [hg.tape, hb.tape, hW2, hW1]; rfl
  · rw [hw']; show w4.output = _; rw [hg.output, hb.output, hW2, hW1]; rfl
  · have := hg.size
    rw [hw']; simp only [World.size_setCell]; omega
end Go.Proofs.YthbiepgpflpfoaaDoor
