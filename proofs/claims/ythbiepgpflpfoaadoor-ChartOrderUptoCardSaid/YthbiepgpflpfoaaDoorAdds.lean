/- add over charts: the whole. -/
import Derived.Test.YthbiepgpflpfoaaDoorAdded
namespace Go.Proofs.YthbiepgpflpfoaaDoor
open Go.RowKit
set_option linter.unusedVariables false
set_option linter.unusedSimpArgs false

theorem rising_mono {M : List Acct} (hr : Rising M) (t : ByteArray) : ∀ i j (hi : i < (M.map (·.name)).length) (hj : j < (M.map (·.name)).length), i ≤ j → cmpB (M.map (·.name))[j] t < 0 → cmpB (M.map (·.name))[i] t < 0 := by
  intro i j hi hj hij h
  rw [List.getElem_map] at h ⊢
  rcases Nat.lt_or_eq_of_le hij with hlt | rfl
  · exact cmp_trans (rising_get hr (by simpa using hj) hlt) h
  · exact h

/-- The world behind the two new blocks. -/
def addW1 (w : World) (a : Acct) : World :=
  ((w.alloc (.cells #[.string a.name, .int .i64 a.typ, .int .i64 a.opened, .bool a.closed] 35)).alloc (.cells #[.string a.name, .int .i64 a.typ, .int .i64 a.opened, .bool a.closed, .slice none 0 0] 67)).drew

theorem addW1_old (w : World) (a : Acct) {k : Nat} (hk : k < w.heap.size) : (addW1 w a).heap[k]? = w.heap[k]? :=
  (Below.heap_alloc _ _ k (by simp; omega)).trans (Below.heap_alloc _ _ k hk)
theorem addW1_size (w : World) (a : Acct) : (addW1 w a).heap.size = w.heap.size + 2 := by simp [addW1, World.drew]
theorem addW1_new (w : World) (a : Acct) : (addW1 w a).heap[w.heap.size + 1]? = some (.cells #[.string a.name, .int .i64 a.typ, .int .i64 a.opened, .bool a.closed, .slice none 0 0] 67 (0, 0)) := by
  have := heap_alloc_new (w.alloc (.cells #[.string a.name, .int .i64 a.typ, .int .i64 a.opened, .bool a.closed] 35)) (.cells #[.string a.name, .int .i64 a.typ, .int .i64 a.opened, .bool a.closed, .slice none 0 0] 67)
  rw [World.size_alloc] at this
  exact this
theorem addW1_acc (w : World) (a : Acct) : (addW1 w a).heap[w.heap.size]? = some (.cells #[.string a.name, .int .i64 a.typ, .int .i64 a.opened, .bool a.closed] 35 (0, 0)) := by
  exact (Below.heap_alloc _ _ _ (by simp)).trans (heap_alloc_new _ _)

/-- What lay below the old heap and is not the map's block lies so behind all. -/
theorem addW3_old {w W2 W3 : World} {mb : Nat} {a : Acct} {o : Obj} (hW2 : W2 = (addW1 w a).putObj mb o) (hb : Below W2.heap.size W2 W3) {k : Nat} (hk : k < w.heap.size) (hkm : k ≠ mb) : W3.heap[k]? = w.heap[k]? := by
  have hs : W2.heap.size = w.heap.size + 2 := by rw [hW2]; simp [World.putObj, addW1_size]
  rw [hb.block k (by omega), hW2, heap_putObj_other _ hkm, addW1_old w a hk]

/-- put's premises, behind the map's update and whatever lays new blocks alone. -/
theorem put_ready {w W2 W3 : World} {mb : Nat} {a : Acct} {v : Value} {M : List Acct} {nb : ByteArray → Nat} (o : Obj) (hW2 : W2 = (addW1 w a).putObj mb o) (hb : Below W2.heap.size W2 W3)
    (hlen : M.length ≤ 99) (hr : Rising M) (hml : mb < w.heap.size)
    (hown : w.ownsRow 0 65 1 v M.length (M.map fun b => ptrV (nb b.name))) (hvm : v.ownBlock ≠ some mb)
    (hN : ∀ b ∈ M, nb b.name ≠ mb ∧ nb b.name < w.heap.size ∧ w.cell? ⟨nb b.name, 0, none⟩ = some (.string b.name)) :
    Calls Tryd.prog 41 #[v, .pointer (some ⟨w.heap.size + 1, 0, none⟩)] W3 (PutPost (M.map (·.name)) ((M.map (·.name)).map fun s => .pointer (some ⟨nb s, 0, none⟩)) a.name (.pointer (some ⟨w.heap.size + 1, 0, none⟩)) W3 v) := by
  have hs : W2.heap.size = w.heap.size + 2 := by rw [hW2]; simp [World.putObj, addW1_size]
  refine put_any (M.map (·.name)) nb v (w.heap.size + 1) a.name W3 (by simpa using hlen) ?_ ?_ ?_ (rising_mono hr a.name)
  · have : ((M.map (·.name)).map fun s => Value.pointer (some ⟨nb s, 0, none⟩)) = M.map fun b => ptrV (nb b.name) := by rw [List.map_map]; rfl
    rw [this, List.length_map]
    exact ownsRow_keep hown fun k hk => addW3_old hW2 hb (hown.lt k hk).2 fun e => hvm (by rw [hk, e])
  · intro j hj
    rw [List.getElem_map]
    obtain ⟨h1, h2, h3⟩ := hN _ (List.getElem_mem (by simpa using hj))
    exact keep_cell h3 (addW3_old hW2 hb h2 h1)
  · have : W3.heap[w.heap.size + 1]? = _ := (hb.block _ (by omega)).trans ((hW2 ▸ heap_putObj_other o (by omega)).trans (addW1_new w a))
    rw [cell_of_blk this]
    rfl

theorem add_any {w : World} {F : Nat → Prop} {cb : Nat} {L : List Acct} (h : ChartAt w F cb L) {a : Acct} (ha : CanAdd L a) :
    Calls Tryd.prog 29 #[.pointer (some ⟨cb, 0, none⟩), accV a] w (MutPost F cb (insA a L) (.tuple #[]) w) := by
  obtain ⟨mb, rv, nb, kv, ps, h⟩ := h
  have hml := h.hM.lt
  have hcl := heap_lt h.hC
  obtain ⟨o, hmu, hmap⟩ := run_update_strmap (P := Tryd.prog) (h.hM.keep (w' := addW1 w a) (addW1_old w a hml)) Tryd.underlying56 Tryd.underlying9 a.name (.pointer (some ⟨w.heap.size + 1, 0, none⟩)) (by rw [h.hps, ha.none_]; rfl)
  have ho : ∀ x : World, x.heap[mb]? = some o → StrMap x mb (ps ++ [(a.name, ptrV (w.heap.size + 1))]) := fun x hx => by
    refine hmap.keep ?_
    rw [hx]
    have : mb < (addW1 w a).heap.size := by rw [addW1_size]; omega
    simp [World.putObj, Array.getElem?_setIfInBounds, this]
  obtain ⟨W2, hW2⟩ : ∃ W2, W2 = (addW1 w a).putObj mb o := ⟨_, rfl⟩
  rw [← hW2] at hmu hmap
  have hs2 : W2.heap.size = w.heap.size + 2 := by rw [hW2]; simp [World.putObj, addW1_size]
  have hA : W2.cell? ⟨w.heap.size, 0, none⟩ = some (.string a.name) := by
    have : W2.heap[w.heap.size]? = _ := (hW2 ▸ heap_putObj_other o (by omega)).trans (addW1_acc w a)
    rw [cell_of_blk this]
    rfl
  have old2 : ∀ k, k < w.heap.size → k ≠ mb → W2.heap[k]? = w.heap[k]? := fun k hk hkm => addW3_old hW2 (Below.refl _ _) hk hkm
  have hcb2 := old2 cb hcl h.cb_mb
  have hc0 : w.cell? ⟨cb, 0, none⟩ = some (.map (some mb)) := by rw [cell_of_blk h.hC]; rfl
  have hc1 : w.cell? ⟨cb, 1, none⟩ = some rv := by rw [cell_of_blk h.hC]; rfl
  have hle := h.le
  have hN : ∀ b ∈ L, nb b.name ≠ mb ∧ nb b.name < w.heap.size ∧ w.cell? ⟨nb b.name, 0, none⟩ = some (.string b.name) := fun b hb => ⟨h.nb_mb hb, heap_lt (h.hN b hb), by rw [cell_of_blk (h.hN b hb)]; rfl⟩
  cases hp : parentF a.name with
  | none =>
    have hr1 := own_ne h.hR h.hC (by decide)
    have hr2 := own_ne_map h.hR h.hM
    have hlen : (rootsA L).length ≤ 99 := Nat.le_trans (List.length_filter_le _ _) ha.room
    have hfz : W2.frozen? ⟨cb, 1, none⟩ = false := keep_frozen (frozen_of_row _ _ _ _ _ h.hC) hcb2
    refine (Go.Proofs.YthbiepgpflpfoaaDoor.add_root cb mb rv a ((rootsA L).map (·.name)) (((rootsA L).map (·.name)).map fun s => .pointer (some ⟨nb s, 0, none⟩)) w W2 hcl ha.size hmu hc0 (by omega) (by omega) hA (keep_cell hc1 hcb2) hfz hr1 ?_ hp ?_).mono ?_
    · obtain ⟨A, c, e, _⟩ := own_slice2 h.hR
      exact ⟨A, _, c, e⟩
    · intro W3 hb
      exact put_ready o hW2 hb hlen (rising_filter _ ha.rising) hml h.hR hr2 fun b hb => hN b (List.mem_filter.1 hb).1
    · intro e w' hend
      obtain ⟨rfl, hm⟩ := add_mem w _ W2 mb cb 1 rv (rootsA L) a nb o e w' rfl hW2 hml hcl h.cb_mb.symm (fun e => hr2 e.symm) (fun e => hr1 e.symm) (fun k hk => (h.hR.lt k hk).2) (fun x hx => find_none ha.none_ x (List.mem_filter.1 hx).1) hend
      exact h.add_root ha hp ho hm
  | some u =>
    obtain ⟨p, hpL, rfl⟩ := ha.up u hp
    have hpn := h.hN p hpL
    have hpl := heap_lt hpn
    have hpb2 := old2 (nb p.name) hpl (h.nb_mb hpL)
    have hr1 := own_ne (h.hK p hpL) hpn (by decide)
    have hr0 := own_ne (h.hK p hpL) h.hC (by decide)
    have hr2 := own_ne_map (h.hK p hpL) h.hM
    have hlen : (kidsA L p.name).length ≤ 99 := Nat.le_trans (List.length_filter_le _ _) ha.room
    have hfz : W2.frozen? ⟨nb p.name, 4, none⟩ = false := keep_frozen (frozen_of_row _ _ _ _ _ hpn) hpb2
    have hk2 : W2.cell? ⟨nb p.name, 4, none⟩ = some (kv p.name) := keep_cell (by rw [cell_of_blk hpn]; rfl) hpb2
    refine (Go.Proofs.YthbiepgpflpfoaaDoor.add_kid cb mb (nb p.name) (kv p.name) p.name a ((kidsA L p.name).map (·.name)) (((kidsA L p.name).map (·.name)).map fun s => .pointer (some ⟨nb s, 0, none⟩)) w W2 hcl ha.size hmu hc0 (by omega) (by omega) (by omega) (by omega) hA (keep_cell hc0 hcb2) hk2 hfz hr0 hr2 hr1 ?_ hp ?_ ?_).mono ?_
    · obtain ⟨A, c, e, _⟩ := own_slice2 (h.hK p hpL)
      exact ⟨A, _, c, e⟩
    · intro W' hW'
      have := run_lookup_strmap (P := Tryd.prog) (hmap.keep hW') Tryd.underlying56 Tryd.underlying9 Tryd.zeroValue65 p.name
      rw [this, getP_append, h.hps, find_mem ha.rising hpL]
      rfl
    · intro W3 hb
      exact put_ready o hW2 hb hlen (rising_filter _ ha.rising) hml (h.hK p hpL) hr2 fun b hb => hN b (List.mem_filter.1 hb).1
    · intro e w' hend
      obtain ⟨rfl, hm⟩ := add_mem w _ W2 mb (nb p.name) 4 (kv p.name) (kidsA L p.name) a nb o e w' rfl hW2 hml hpl (h.nb_mb hpL).symm (fun e => hr2 e.symm) (fun e => hr1 e.symm) (fun k hk => ((h.hK p hpL).lt k hk).2) (fun x hx => find_none ha.none_ x (List.mem_filter.1 hx).1) hend
      exact h.add_kid ha hpL hp ho hm
end Go.Proofs.YthbiepgpflpfoaaDoor
