/- add: an account that may be there. -/
import Derived.Test.YthbiepgpflpfoaaDoorPut
import Derived.Test.YthbiepgpflpfoaaDoorParent
import Derived.Test.YthbiepgpflpfoaaDoorKids
import Derived.RegionTactic
import Derived.StillTailTactics
namespace Go.Proofs.YthbiepgpflpfoaaDoor
open Go.RowKit
set_option linter.unusedVariables false
set_option linter.unusedSimpArgs false

def nodeCs (a : Acct) (v : Value) : Array Value := #[.string a.name, .int .i64 a.typ, .int .i64 a.opened, .bool a.closed, v]
def accCs (a : Acct) : Array Value := #[.string a.name, .int .i64 a.typ, .int .i64 a.opened, .bool a.closed]

structure AddEnd (ns : List ByteArray) (ps : List Value) (t : ByteArray) (p : Value) (W2 : World) (v : Value) (slot : Addr) (e : Ending) (w' : World) : Prop where
  ret : e = .returned (.tuple #[])
  ex : ∃ W3 w4 v', Below W2.heap.size W2 W3 ∧ PutPost ns ps t p W3 v (.returned v') w4 ∧ w' = w4.setCell slot v'

theorem PutPost.drew {ns : List ByteArray} {ps : List Value} {t : ByteArray} {p : Value} {W : World} {v : Value} {e : Ending} {w' : World} (h : PutPost ns ps t p W.drew v e w') : PutPost ns ps t p W v e w' := by
  obtain ⟨i, v', h1, h2, h3, h4, h5, h6, h7⟩ := h
  exact ⟨i, v', h1, h2, h3, h4, h5, ⟨h6.os, h6.tape, h6.output, h6.size, h6.block⟩, h7⟩

theorem keep_cell {w w' : World} {a : Addr} {v : Value} (h : w.cell? a = some v) (hb : w'.heap[a.block]? = w.heap[a.block]?) : w'.cell? a = some v := (World.cell?_of_block hb).trans h
theorem keep_frozen {w w' : World} {a : Addr} {v : Bool} (h : w.frozen? a = v) (hb : w'.heap[a.block]? = w.heap[a.block]?) : w'.frozen? a = v := (World.frozen?_of_block hb).trans h

set_option maxRecDepth 100000 in
set_option maxHeartbeats 1000000 in
theorem add_root (cb mb : Nat) (rv : Value) (a : Acct) (ns : List ByteArray) (ps : List Value) (w W2 : World) (hcl : cb < w.heap.size) (hsz : a.name.size ≤ 140737488355328)
    (hmu : Sem.run Tryd.prog (Instr.mapUpdate 56 (.map (some mb)) (.string a.name) (.pointer (some ⟨w.heap.size + 1, 0, none⟩))) ((w.alloc (.cells #[.string a.name, .int .i64 a.typ, .int .i64 a.opened, .bool a.closed] 35)).alloc (.cells #[.string a.name, .int .i64 a.typ, .int .i64 a.opened, .bool a.closed, .slice none 0 0] 67)).drew = .ok () W2)
    (hc0 : w.cell? ⟨cb, 0, none⟩ = some (.map (some mb))) (hcl2 : cb < W2.heap.size) (hal2 : w.heap.size < W2.heap.size)
    (hA : W2.cell? ⟨w.heap.size, 0, none⟩ = some (.string a.name)) (hc1 : W2.cell? ⟨cb, 1, none⟩ = some rv) (hf1 : W2.frozen? ⟨cb, 1, none⟩ = false) (hcr : rv.ownBlock ≠ some cb) (hr : ∃ A n c, rv = .slice A n c)
    (hpar : parentF a.name = none)
    (hput : ∀ W3, Below W2.heap.size W2 W3 → Calls Tryd.prog 41 #[rv, .pointer (some ⟨w.heap.size + 1, 0, none⟩)] W3 (PutPost ns ps a.name (.pointer (some ⟨w.heap.size + 1, 0, none⟩)) W3 rv)) :
    Calls Tryd.prog 29 #[.pointer (some ⟨cb, 0, none⟩), accV a] w (AddEnd ns ps a.name (.pointer (some ⟨w.heap.size + 1, 0, none⟩)) W2 rv ⟨cb, 1, none⟩) := by
  have hp := fun W => Parent_any a.name W hsz
  rw [hpar] at hp
  obtain ⟨rA, rn, rc, rfl⟩ := hr
  unfold accV
  go_enter Tryd.func29, Tryd.ntmps29
  go_wp2_with fail
  go_region
  clear hmu hc0
  go_wp2_with (go_at_call 10; refine (hp _).mono ?_; rintro e W3 ⟨rfl, hbel⟩; have hc1' := (hbel.cell (p := ⟨cb, 1, none⟩) hcl2).trans hc1; have hf1' := (hbel.frozen (p := ⟨cb, 1, none⟩) hcl2).trans hf1; have hcl3 := Nat.lt_of_lt_of_le hcl2 hbel.size; have hput' := hput W3 hbel; have HB := Lib.hid hbel; clear hbel hput hp hA hc1 hf1)
  refine hput'.mono ?_
  rintro e w4 hpp
  obtain ⟨i, v', h1, h2, h3, rfl, h5, h6, h7⟩ := hpp
  have hblk := h6.block cb hcl3 (fun e => hcr e.symm)
  have hc4 := keep_cell hc1' hblk
  have hf4 := keep_frozen hf1' hblk
  obtain ⟨vA, vc, rfl, _⟩ := own_slice2 h5
  have HPP : Hid (PutPost ns ps a.name (.pointer (some ⟨w.heap.size + 1, 0, none⟩)) W3 (.slice rA rn rc) (.returned (.slice vA (ns.length + 1) vc)) w4) := ⟨i, _, h1, h2, h3, rfl, h5, h6, h7⟩
  clear h1 h2 h3 h5 h6 h7 hblk hput' hc1' hf1'
  go_wp2_with fail
  go_end0
  exact ⟨rfl, W3, w4, _, HB.out, HPP.out, rfl⟩

set_option maxRecDepth 100000 in
set_option maxHeartbeats 4000000 in
theorem add_kid (cb mb pb : Nat) (kv : Value) (u : ByteArray) (a : Acct) (ns : List ByteArray) (ps : List Value) (w W2 : World) (hcl : cb < w.heap.size) (hsz : a.name.size ≤ 140737488355328)
    (hmu : Sem.run Tryd.prog (Instr.mapUpdate 56 (.map (some mb)) (.string a.name) (.pointer (some ⟨w.heap.size + 1, 0, none⟩))) ((w.alloc (.cells #[.string a.name, .int .i64 a.typ, .int .i64 a.opened, .bool a.closed] 35)).alloc (.cells #[.string a.name, .int .i64 a.typ, .int .i64 a.opened, .bool a.closed, .slice none 0 0] 67)).drew = .ok () W2)
    (hc0 : w.cell? ⟨cb, 0, none⟩ = some (.map (some mb))) (hcl2 : cb < W2.heap.size) (hal2 : w.heap.size < W2.heap.size) (hml2 : mb < W2.heap.size) (hpl2 : pb < W2.heap.size)
    (hA : W2.cell? ⟨w.heap.size, 0, none⟩ = some (.string a.name)) (hc02 : W2.cell? ⟨cb, 0, none⟩ = some (.map (some mb)))
    (hk2 : W2.cell? ⟨pb, 4, none⟩ = some kv) (hf2 : W2.frozen? ⟨pb, 4, none⟩ = false) (hck : kv.ownBlock ≠ some cb) (hmk : kv.ownBlock ≠ some mb) (hpk : kv.ownBlock ≠ some pb) (hr : ∃ A n c, kv = .slice A n c)
    (hpar : parentF a.name = some u)
    (hlk : ∀ W' : World, W'.heap[mb]? = W2.heap[mb]? → Sem.run Tryd.prog (Instr.lookup 56 (.map (some mb)) (.string u) false) W' = .ok (.pointer (some ⟨pb, 0, none⟩)) W')
    (hput : ∀ W3, Below W2.heap.size W2 W3 → Calls Tryd.prog 41 #[kv, .pointer (some ⟨w.heap.size + 1, 0, none⟩)] W3 (PutPost ns ps a.name (.pointer (some ⟨w.heap.size + 1, 0, none⟩)) W3 kv)) :
    Calls Tryd.prog 29 #[.pointer (some ⟨cb, 0, none⟩), accV a] w (AddEnd ns ps a.name (.pointer (some ⟨w.heap.size + 1, 0, none⟩)) W2 kv ⟨pb, 4, none⟩) := by
  have hp := fun W => Parent_any a.name W hsz
  rw [hpar] at hp
  obtain ⟨rA, rn, rc, rfl⟩ := hr
  have HLK := Lib.hid hlk
  have HPUT := Lib.hid hput
  clear hlk hput
  unfold accV
  go_enter Tryd.func29, Tryd.ntmps29
  go_wp2_with fail
  go_region
  clear hmu hc0
  go_wp2_with (go_at_call 10; refine (hp _).mono ?_; rintro e W3 ⟨rfl, hbel⟩; have HB := Lib.hid hbel; clear hbel)
  have hc3 : W3.drew.cell? ⟨cb, 0, none⟩ = some (.map (some mb)) := (HB.out.cell (p := ⟨cb, 0, none⟩) hcl2).trans hc02
  have hk3 : W3.drew.cell? ⟨pb, 4, none⟩ = some (.slice rA rn rc) := (HB.out.cell (p := ⟨pb, 4, none⟩) hpl2).trans hk2
  have hl3 := HLK.out W3.drew (HB.out.block mb hml2)
  have hput3 := HPUT.out W3.drew (HB.out.drew)
  have hcl3 := Nat.lt_of_lt_of_le hcl2 HB.out.size
  have hml3 := Nat.lt_of_lt_of_le hml2 HB.out.size
  have hpl3 := Nat.lt_of_lt_of_le hpl2 HB.out.size
  clear hA hc02 hk2 hp
  go_region_with (go_at_call 41; refine hput3.mono ?_; rintro e w4 ⟨i, v', h1, h2, h3, rfl, h5, h6, h7⟩; obtain ⟨vA, vc, rfl, _⟩ := own_slice2 h5; have hc4 := keep_cell hc3 (h6.block cb hcl3 (fun e => hck e.symm)); have hk4 := keep_cell hk3 (h6.block pb hpl3 (fun e => hpk e.symm)); have hf4 : w4.frozen? ⟨pb, 4, none⟩ = false := keep_frozen (keep_frozen hf2 (HB.out.block pb hpl2)) (h6.block pb hpl3 (fun e => hpk e.symm)); have hl4 := HLK.out w4 ((h6.block mb hml3 (fun e => hmk e.symm)).trans (HB.out.block mb hml2)); have HPP : Hid (PutPost ns ps a.name (.pointer (some ⟨w.heap.size + 1, 0, none⟩)) W3 (.slice rA rn rc) (.returned (.slice vA (ns.length + 1) vc)) w4) := PutPost.drew ⟨i, _, h1, h2, h3, rfl, h5, h6, h7⟩; clear h1 h2 h3 h5 h6 h7)
  all_goals
    go_wp2_with fail
    go_end0
    exact ⟨rfl, W3, w4, _, HB.out, HPP.out, rfl⟩
end Go.Proofs.YthbiepgpflpfoaaDoor
