/- The rows of postings and voids; The table of the kinds' acts. Printed by gen_acts.py; What an event's kind is refused for, and its rows. Printed by gen_act.py; Check, way by way. Printed by gen_check.py; Check's long way. Printed by gen_check2.py; Check; Rows taken into the books: memory alone; What each kind changes besides. Printed by gen_keep.py. -/
import Derived.Test.YtgocoofcelggcaaGreatDoorPack9
import Derived.Test.YtgocoofcelggcaaGreatDoorPack10
import Derived.Test.YtgocoofcelggcaaGreatDoorPack5
import Derived.Laws.EntriesVeiled
import Derived.Deep.WholeRow
import Derived.KernelRfl
namespace Go.Proofs.YtgocoofcelggcaaGreatDoor
open Go.RowKit
set_option linter.unusedVariables false
set_option linter.unusedSimpArgs false

theorem entryOf_at {S : BookS} {k : ByteArray} {i : Nat} (hi : i < S.entries.length) (hix : (S.entries.findIdx? fun x => decide (x.key = k)) = some i) : entryOf S k = some S.entries[i] := by
  rcases find_at (fun x : EntryV => decide (x.key = k)) S.entries with ⟨j, hj, h1, h2, _⟩ | ⟨h1, _, _⟩
  · rw [hix] at h1
    cases h1
    exact h2
  · rw [hix] at h1
    cases h1
theorem entry_ix {S : BookS} {k : ByteArray} {x : EntryV} (h : entryOf S k = some x) : ∃ i, ∃ hi : i < S.entries.length, (S.entries.findIdx? fun x => decide (x.key = k)) = some i ∧ S.entries[i] = x := by
  rcases find_at (fun x : EntryV => decide (x.key = k)) S.entries with ⟨j, hj, h1, h2, _⟩ | ⟨_, h2, _⟩
  · refine ⟨j, hj, h1, ?_⟩
    have h3 : some S.entries[j] = some x := h2.symm.trans h
    injection h3
  · have h3 : (none : Option EntryV) = some x := h2.symm.trans h
    cases h3
theorem claim_ix {S : BookS} {k : ByteArray} {x : ClaimV} (h : claimOf S k = some x) : ∃ i, ∃ hi : i < S.claims.length, (S.claims.findIdx? fun x => decide (x.key = k)) = some i ∧ S.claims[i] = x := by
  rcases find_at (fun x : ClaimV => decide (x.key = k)) S.claims with ⟨j, hj, h1, h2, _⟩ | ⟨_, h2, _⟩
  · refine ⟨j, hj, h1, ?_⟩
    have h3 : some S.claims[j] = some x := h2.symm.trans h
    injection h3
  · have h3 : (none : Option ClaimV) = some x := h2.symm.trans h
    cases h3

section
variable {w : World} {F : Nat → Prop} {bb eb : Nat} {S : BookS} {e : EventV} {lv : Value}

set_option maxRecDepth 100000 in
set_option maxHeartbeats 1000000 in
theorem posted_any (h : BookAt w F bb S) (hev : 0 ≤ S.events ∧ S.events ≤ 1000) (hE : EvAt w eb e lv) (R : Nat → Prop) (hL : LinesAt w R lv e.lines) (hl : e.lines.length ≤ 12) (ham : ∀ x ∈ e.lines, -maxA ≤ x.amount ∧ x.amount ≤ maxA) (hk : e.kind = 3) :
    Calls Tryz.prog 62 #[ptrV bb, ptrV eb] w fun en w' => ∃ rv, en = .returned rv ∧ w'.ownsRow w.heap.size 39 9 rv (rowsOf S e).length ((rowsOf S e).map encPost).flatten ∧ Below w.heap.size w w' := by
  have hc := lines_any h hev hE R lv e.lines 1 hl hL (.inl rfl) ham
  have hrs : rowsOf S e = linesRows S e 1 e.lines := by unfold rowsOf; simp [hk]
  rw [hrs]
  have e11 := hE.e11
  unfold ptrV at hc ⊢
  clear h hE hL hrs hk ham
  go_enter Tryz.func62, Tryz.ntmps62
  go_wp2_with (go_at_call 97; refine hc.mono ?_; rintro en w1 ⟨rv, rfl, hx⟩; have HX := Lib.hid hx; clear hx hc)
  go_ret
  exact ⟨_, rfl, HX.out⟩

set_option maxRecDepth 100000 in
set_option maxHeartbeats 1000000 in
theorem voided_any (h : BookAt w F bb S) (ho : OkS S) (hE : EvAt w eb e lv) (i : Nat) (hi : i < S.entries.length) (hix : (S.entries.findIdx? fun x => decide (x.key = e.ref)) = some i) (hk : e.kind = 4) (ham : ∀ x ∈ S.entries[i].lines, -maxA ≤ x.amount ∧ x.amount ≤ maxA) :
    Calls Tryz.prog 65 #[ptrV bb, ptrV eb] w fun en w' => ∃ rv, en = .returned rv ∧ w'.ownsRow w.heap.size 39 9 rv (rowsOf S e).length ((rowsOf S e).map encPost).flatten ∧ Below w.heap.size w w' := by
  have hrs : rowsOf S e = linesRows S e (-1) S.entries[i].lines := by unfold rowsOf; simp [hk, entryOf_at hi hix]
  rw [hrs]
  have hd := h.drew
  have hEd : EvAt w.drew eb e lv := hE.below (Below.refl _ _).drew
  obtain ⟨ρ, p, h, _⟩ := h
  have hfit := ho.entFit _ (List.getElem_mem hi)
  have hl12 : S.entries[i].lines.length ≤ 12 := by
    unfold fitB at hfit
    simp at hfit
    exact hfit.2.2
  have hc := lines_any hd ⟨ho.ev0, ho.ev1⟩ hEd _ (p.lv i) S.entries[i].lines (-1) hl12 ((h.lines i hi).below (Below.refl _ _).drew) (.inr rfl) ham
  have hlk : Sem.run Tryz.prog (Instr.lookup 73 (.map (some p.mE)) (.string e.ref) false) w.drew = .ok (.int .i64 (i : Int)) w.drew := h.lookI e.ref i hix 1
  obtain ⟨g, cap, hv, hgl, hrg, hcs⟩ := h.entCell i hi
  have c7 := h.c7
  have c8 := h.c8
  rw [hv] at c7
  have e5 := hE.e5
  have hg2 : w.cell? ⟨g, i * 4 + 2, none⟩ = some (p.lv i) := hcs 2 _ rfl
  have hin : (i : Int) < (S.entries.length : Int) := by omega
  generalize hn : S.entries.length = n at c7 hin
  have HC := Lib.hid hc
  unfold ptrV at HC ⊢
  generalize p.lv i = lw at *
  clear h hE hcs hix hv hn ho hd hEd hrs hfit hl12 hk hc ham
  go_enter Tryz.func65, Tryz.ntmps65
  go_wp2
  refine still_tail (W := w.drew) 18 (by kernel_rfl) (by kernel_rfl) rfl ?_
  simp only [List.take_succ_cons, List.take_zero, List.drop_succ_cons, List.drop_zero]
  repeat still_step
  refine wpStill_nil ?_
  go_wp2_with (go_at_call 97; refine HC.out.mono ?_; rintro en w1 ⟨rv, rfl, hx⟩; have HX := Lib.hid hx; clear hx)
  go_ret
  obtain ⟨h1, h2⟩ := HX.out
  exact ⟨_, rfl, h1, ⟨h2.os, h2.tape, h2.output, h2.size, h2.block⟩⟩
end
end Go.Proofs.YtgocoofcelggcaaGreatDoor
namespace Go.Proofs.YtgocoofcelggcaaGreatDoor
open Go.RowKit
set_option linter.unusedVariables false
set_option linter.unusedSimpArgs false

def actsT : Array Value := #[.bool false, .nilFunc, .nilFunc, .nilFunc, .bool false, .func (.func 56) #[] #[], .func (.func 57) #[] #[], .func (.func 58) #[] #[], .bool false, .func (.func 59) #[] #[], .func (.func 57) #[] #[], .func (.func 60) #[] #[], .bool true, .func (.func 61) #[] #[], .func (.func 62) #[] #[], .func (.func 63) #[] #[], .bool true, .func (.func 64) #[] #[], .func (.func 65) #[] #[], .func (.func 66) #[] #[], .bool true, .func (.func 67) #[] #[], .func (.func 68) #[] #[], .func (.func 69) #[] #[], .bool true, .func (.func 70) #[] #[], .func (.func 71) #[] #[], .func (.func 69) #[] #[], .bool true, .func (.func 72) #[] #[], .func (.func 57) #[] #[], .func (.func 73) #[] #[], .bool false, .func (.func 74) #[] #[], .func (.func 57) #[] #[], .func (.func 75) #[] #[]]
def actsZ : Array Value := #[.bool false, .nilFunc, .nilFunc, .nilFunc, .bool false, .nilFunc, .nilFunc, .nilFunc, .bool false, .nilFunc, .nilFunc, .nilFunc, .bool false, .nilFunc, .nilFunc, .nilFunc, .bool false, .nilFunc, .nilFunc, .nilFunc, .bool false, .nilFunc, .nilFunc, .nilFunc, .bool false, .nilFunc, .nilFunc, .nilFunc, .bool false, .nilFunc, .nilFunc, .nilFunc, .bool false, .nilFunc, .nilFunc, .nilFunc]
@[local go_sem ↓] theorem acts_zero (w : World) : (zeroValue 128).run Tryz.prog w = .ok (.agg actsZ) w := by kernel_rfl
@[local go_sem] theorem acts_fill : ((((((((((((((((((((((((((((((((actsZ.setIfInBounds 4 (.bool false)).setIfInBounds 5 (.func (.func 56) #[] #[])).setIfInBounds 6 (.func (.func 57) #[] #[])).setIfInBounds 7 (.func (.func 58) #[] #[])).setIfInBounds 8 (.bool false)).setIfInBounds 9 (.func (.func 59) #[] #[])).setIfInBounds 10 (.func (.func 57) #[] #[])).setIfInBounds 11 (.func (.func 60) #[] #[])).setIfInBounds 12 (.bool true)).setIfInBounds 13 (.func (.func 61) #[] #[])).setIfInBounds 14 (.func (.func 62) #[] #[])).setIfInBounds 15 (.func (.func 63) #[] #[])).setIfInBounds 16 (.bool true)).setIfInBounds 17 (.func (.func 64) #[] #[])).setIfInBounds 18 (.func (.func 65) #[] #[])).setIfInBounds 19 (.func (.func 66) #[] #[])).setIfInBounds 20 (.bool true)).setIfInBounds 21 (.func (.func 67) #[] #[])).setIfInBounds 22 (.func (.func 68) #[] #[])).setIfInBounds 23 (.func (.func 69) #[] #[])).setIfInBounds 24 (.bool true)).setIfInBounds 25 (.func (.func 70) #[] #[])).setIfInBounds 26 (.func (.func 71) #[] #[])).setIfInBounds 27 (.func (.func 69) #[] #[])).setIfInBounds 28 (.bool true)).setIfInBounds 29 (.func (.func 72) #[] #[])).setIfInBounds 30 (.func (.func 57) #[] #[])).setIfInBounds 31 (.func (.func 73) #[] #[])).setIfInBounds 32 (.bool false)).setIfInBounds 33 (.func (.func 74) #[] #[])).setIfInBounds 34 (.func (.func 57) #[] #[])).setIfInBounds 35 (.func (.func 75) #[] #[])) = actsT := by kernel_rfl
@[local go_sem] theorem acts_size : actsT.size = 36 := by kernel_rfl
@[local go_sem] theorem acts_sizeZ : actsZ.size = 36 := by kernel_rfl
@[local go_sem] theorem acts_store (w : World) : (storeCells ⟨w.heap.size + 1, 0, none⟩ actsT.toList 0).run Tryz.prog ((w.alloc (.cells #[.bool false, .nilFunc, .nilFunc, .nilFunc] 99)).alloc (.cells actsZ 128)) =
    .ok () ((w.alloc (.cells #[.bool false, .nilFunc, .nilFunc, .nilFunc] 99)).alloc (.cells actsT 128)) := by
  have := run_storeCells_new (P := Tryz.prog) (w.alloc (.cells #[.bool false, .nilFunc, .nilFunc, .nilFunc] 99)) 128 actsZ actsT (by kernel_rfl) (by rfl) (by simp [actsT, Value.oneCell'])
  rw [World.size_alloc] at this
  exact this
@[local go_sem] theorem acts_get4 (h : 4 < actsT.size) : actsT[4]'h = .bool false := by rfl
@[local go_sem] theorem acts_get5 (h : 5 < actsT.size) : actsT[5]'h = .func (.func 56) #[] #[] := by rfl
@[local go_sem] theorem acts_get6 (h : 6 < actsT.size) : actsT[6]'h = .func (.func 57) #[] #[] := by rfl
@[local go_sem] theorem acts_get7 (h : 7 < actsT.size) : actsT[7]'h = .func (.func 58) #[] #[] := by rfl
@[local go_sem] theorem acts_get8 (h : 8 < actsT.size) : actsT[8]'h = .bool false := by rfl
@[local go_sem] theorem acts_get9 (h : 9 < actsT.size) : actsT[9]'h = .func (.func 59) #[] #[] := by rfl
@[local go_sem] theorem acts_get10 (h : 10 < actsT.size) : actsT[10]'h = .func (.func 57) #[] #[] := by rfl
@[local go_sem] theorem acts_get11 (h : 11 < actsT.size) : actsT[11]'h = .func (.func 60) #[] #[] := by rfl
@[local go_sem] theorem acts_get12 (h : 12 < actsT.size) : actsT[12]'h = .bool true := by rfl
@[local go_sem] theorem acts_get13 (h : 13 < actsT.size) : actsT[13]'h = .func (.func 61) #[] #[] := by rfl
@[local go_sem] theorem acts_get14 (h : 14 < actsT.size) : actsT[14]'h = .func (.func 62) #[] #[] := by rfl
@[local go_sem] theorem acts_get15 (h : 15 < actsT.size) : actsT[15]'h = .func (.func 63) #[] #[] := by rfl
@[local go_sem] theorem acts_get16 (h : 16 < actsT.size) : actsT[16]'h = .bool true := by rfl
@[local go_sem] theorem acts_get17 (h : 17 < actsT.size) : actsT[17]'h = .func (.func 64) #[] #[] := by rfl
@[local go_sem] theorem acts_get18 (h : 18 < actsT.size) : actsT[18]'h = .func (.func 65) #[] #[] := by rfl
@[local go_sem] theorem acts_get19 (h : 19 < actsT.size) : actsT[19]'h = .func (.func 66) #[] #[] := by rfl
@[local go_sem] theorem acts_get20 (h : 20 < actsT.size) : actsT[20]'h = .bool true := by rfl
@[local go_sem] theorem acts_get21 (h : 21 < actsT.size) : actsT[21]'h = .func (.func 67) #[] #[] := by rfl
@[local go_sem] theorem acts_get22 (h : 22 < actsT.size) : actsT[22]'h = .func (.func 68) #[] #[] := by rfl
@[local go_sem] theorem acts_get23 (h : 23 < actsT.size) : actsT[23]'h = .func (.func 69) #[] #[] := by rfl
@[local go_sem] theorem acts_get24 (h : 24 < actsT.size) : actsT[24]'h = .bool true := by rfl
@[local go_sem] theorem acts_get25 (h : 25 < actsT.size) : actsT[25]'h = .func (.func 70) #[] #[] := by rfl
@[local go_sem] theorem acts_get26 (h : 26 < actsT.size) : actsT[26]'h = .func (.func 71) #[] #[] := by rfl
@[local go_sem] theorem acts_get27 (h : 27 < actsT.size) : actsT[27]'h = .func (.func 69) #[] #[] := by rfl
@[local go_sem] theorem acts_get28 (h : 28 < actsT.size) : actsT[28]'h = .bool true := by rfl
@[local go_sem] theorem acts_get29 (h : 29 < actsT.size) : actsT[29]'h = .func (.func 72) #[] #[] := by rfl
@[local go_sem] theorem acts_get30 (h : 30 < actsT.size) : actsT[30]'h = .func (.func 57) #[] #[] := by rfl
@[local go_sem] theorem acts_get31 (h : 31 < actsT.size) : actsT[31]'h = .func (.func 73) #[] #[] := by rfl
@[local go_sem] theorem acts_get32 (h : 32 < actsT.size) : actsT[32]'h = .bool false := by rfl
@[local go_sem] theorem acts_get33 (h : 33 < actsT.size) : actsT[33]'h = .func (.func 74) #[] #[] := by rfl
@[local go_sem] theorem acts_get34 (h : 34 < actsT.size) : actsT[34]'h = .func (.func 57) #[] #[] := by rfl
@[local go_sem] theorem acts_get35 (h : 35 < actsT.size) : actsT[35]'h = .func (.func 75) #[] #[] := by rfl
set_option maxRecDepth 100000 in
theorem acts1 (w : World) : Calls Tryz.prog 39 #[.int .i64 1] w fun e w' => e = .returned (.agg #[.bool false, .func (.func 56) #[] #[], .func (.func 57) #[] #[], .func (.func 58) #[] #[]]) ∧ Below w.heap.size w w' := by
  go_enter Tryz.func39, Tryz.ntmps39
  go_wp2
  refine bodyPost_ret (v := .agg #[.bool false, .func (.func 56) #[] #[], .func (.func 57) #[] #[], .func (.func 58) #[] #[]]) ?_ rfl ⟨rfl, ?_⟩
  · simp [results, Tryz.results39, go_sem]
  · exact bel2 _ _ _
set_option maxRecDepth 100000 in
theorem acts2 (w : World) : Calls Tryz.prog 39 #[.int .i64 2] w fun e w' => e = .returned (.agg #[.bool false, .func (.func 59) #[] #[], .func (.func 57) #[] #[], .func (.func 60) #[] #[]]) ∧ Below w.heap.size w w' := by
  go_enter Tryz.func39, Tryz.ntmps39
  go_wp2
  refine bodyPost_ret (v := .agg #[.bool false, .func (.func 59) #[] #[], .func (.func 57) #[] #[], .func (.func 60) #[] #[]]) ?_ rfl ⟨rfl, ?_⟩
  · simp [results, Tryz.results39, go_sem]
  · exact bel2 _ _ _
set_option maxRecDepth 100000 in
theorem acts3 (w : World) : Calls Tryz.prog 39 #[.int .i64 3] w fun e w' => e = .returned (.agg #[.bool true, .func (.func 61) #[] #[], .func (.func 62) #[] #[], .func (.func 63) #[] #[]]) ∧ Below w.heap.size w w' := by
  go_enter Tryz.func39, Tryz.ntmps39
  go_wp2
  refine bodyPost_ret (v := .agg #[.bool true, .func (.func 61) #[] #[], .func (.func 62) #[] #[], .func (.func 63) #[] #[]]) ?_ rfl ⟨rfl, ?_⟩
  · simp [results, Tryz.results39, go_sem]
  · exact bel2 _ _ _
set_option maxRecDepth 100000 in
theorem acts4 (w : World) : Calls Tryz.prog 39 #[.int .i64 4] w fun e w' => e = .returned (.agg #[.bool true, .func (.func 64) #[] #[], .func (.func 65) #[] #[], .func (.func 66) #[] #[]]) ∧ Below w.heap.size w w' := by
  go_enter Tryz.func39, Tryz.ntmps39
  go_wp2
  refine bodyPost_ret (v := .agg #[.bool true, .func (.func 64) #[] #[], .func (.func 65) #[] #[], .func (.func 66) #[] #[]]) ?_ rfl ⟨rfl, ?_⟩
  · simp [results, Tryz.results39, go_sem]
  · exact bel2 _ _ _
set_option maxRecDepth 100000 in
theorem acts5 (w : World) : Calls Tryz.prog 39 #[.int .i64 5] w fun e w' => e = .returned (.agg #[.bool true, .func (.func 67) #[] #[], .func (.func 68) #[] #[], .func (.func 69) #[] #[]]) ∧ Below w.heap.size w w' := by
  go_enter Tryz.func39, Tryz.ntmps39
  go_wp2
  refine bodyPost_ret (v := .agg #[.bool true, .func (.func 67) #[] #[], .func (.func 68) #[] #[], .func (.func 69) #[] #[]]) ?_ rfl ⟨rfl, ?_⟩
  · simp [results, Tryz.results39, go_sem]
  · exact bel2 _ _ _
set_option maxRecDepth 100000 in
theorem acts6 (w : World) : Calls Tryz.prog 39 #[.int .i64 6] w fun e w' => e = .returned (.agg #[.bool true, .func (.func 70) #[] #[], .func (.func 71) #[] #[], .func (.func 69) #[] #[]]) ∧ Below w.heap.size w w' := by
  go_enter Tryz.func39, Tryz.ntmps39
  go_wp2
  refine bodyPost_ret (v := .agg #[.bool true, .func (.func 70) #[] #[], .func (.func 71) #[] #[], .func (.func 69) #[] #[]]) ?_ rfl ⟨rfl, ?_⟩
  · simp [results, Tryz.results39, go_sem]
  · exact bel2 _ _ _
set_option maxRecDepth 100000 in
theorem acts7 (w : World) : Calls Tryz.prog 39 #[.int .i64 7] w fun e w' => e = .returned (.agg #[.bool true, .func (.func 72) #[] #[], .func (.func 57) #[] #[], .func (.func 73) #[] #[]]) ∧ Below w.heap.size w w' := by
  go_enter Tryz.func39, Tryz.ntmps39
  go_wp2
  refine bodyPost_ret (v := .agg #[.bool true, .func (.func 72) #[] #[], .func (.func 57) #[] #[], .func (.func 73) #[] #[]]) ?_ rfl ⟨rfl, ?_⟩
  · simp [results, Tryz.results39, go_sem]
  · exact bel2 _ _ _
set_option maxRecDepth 100000 in
theorem acts8 (w : World) : Calls Tryz.prog 39 #[.int .i64 8] w fun e w' => e = .returned (.agg #[.bool false, .func (.func 74) #[] #[], .func (.func 57) #[] #[], .func (.func 75) #[] #[]]) ∧ Below w.heap.size w w' := by
  go_enter Tryz.func39, Tryz.ntmps39
  go_wp2
  refine bodyPost_ret (v := .agg #[.bool false, .func (.func 74) #[] #[], .func (.func 57) #[] #[], .func (.func 75) #[] #[]]) ?_ rfl ⟨rfl, ?_⟩
  · simp [results, Tryz.results39, go_sem]
  · exact bel2 _ _ _
end Go.Proofs.YtgocoofcelggcaaGreatDoor
namespace Go.Proofs.YtgocoofcelggcaaGreatDoor
open Go.RowKit
set_option linter.unusedVariables false
set_option linter.unusedSimpArgs false

/-- The numbers of an event are numbers of the machine. -/
structure InEv (e : EventV) : Prop where
  amount : -maxA - 1 ≤ e.amount ∧ e.amount ≤ maxA
  lines : ∀ x ∈ e.lines, -maxA - 1 ≤ x.amount ∧ x.amount ≤ maxA
/-- OkS, and the entries' amounts. -/
structure OkT (S : BookS) : Prop where
  ok : OkS S
  entAmt : ∀ x ∈ S.entries, ∀ y ∈ x.lines, -maxA ≤ y.amount ∧ y.amount ≤ maxA

structure ActOk (w : World) (bb : Nat) (S : BookS) (e : EventV) (lv : Value) (kd : Bool) (fm fr fk : Nat) : Prop where
  acts : ∀ W, Calls Tryz.prog 39 #[.int .i64 e.kind] W fun en w' => en = .returned (.agg #[.bool kd, .func (.func fm) #[] #[], .func (.func fr) #[] #[], .func (.func fk) #[] #[]]) ∧ Below W.heap.size W w'
  keyed : keyedB e.kind = kd
  em : ∀ args (W : World), Sem.run Tryz.prog (callFunc fm args) W = .ok (.enter fm args) W
  er : ∀ args (W : World), Sem.run Tryz.prog (callFunc fr args) W = .ok (.enter fr args) W
  ek : ∀ args (W : World), Sem.run Tryz.prog (callFunc fk args) W = .ok (.enter fk args) W
  may : ∀ W eb, Below w.heap.size w W → EvAt W eb e lv → Calls Tryz.prog fm #[ptrV bb, ptrV eb] W fun en w' => en = .returned (.int .i64 (refuseE S e)) ∧ Below W.heap.size W w'
  rows : refuseE S e = 0 → ∀ W eb, Below w.heap.size w W → EvAt W eb e lv → Calls Tryz.prog fr #[ptrV bb, ptrV eb] W fun en w' => ∃ rv, en = .returned rv ∧ w'.ownsRow W.heap.size 39 9 rv (rowsOf S e).length ((rowsOf S e).map encPost).flatten ∧ Below W.heap.size W w'

theorem fit_amt {e : EventV} (hf : fitB e.lines = true) (hin : InEv e) : e.lines.length ≤ 12 ∧ ∀ x ∈ e.lines, -maxA ≤ x.amount ∧ x.amount ≤ maxA := by
  have h0 := hf
  unfold fitB at hf
  rw [Bool.and_eq_true, decide_eq_true_eq] at hf
  refine ⟨hf.2.2, fun x hx => ?_⟩
  have h1 := List.all_eq_true.1 hf.1 x hx
  have h2 := hin.lines x hx
  unfold lineB at h1
  simp only [Bool.and_eq_true, decide_eq_true_eq] at h1
  have h3 := h1.1.2
  unfold maxA at *
  omega

section
variable {w : World} {F : Nat → Prop} {bb : Nat} {S : BookS} {e : EventV} {lv : Value} {R : Nat → Prop}

theorem act_1 (h : BookAt w F bb S) (ht : OkT S) (hz : SmallEv e) (hin : InEv e) (hL : LinesAt w R lv e.lines) (hf : fieldsB e = true) (hk : e.kind = 1) :
    ActOk w bb S e lv false 56 57 58 := by
  have ho := ht.ok
  have href : refuseE S e = mayOpenE S e := by unfold refuseE; simp [hk]
  exact {
    acts := fun W => by rw [hk]; exact acts1 W
    keyed := by rw [hk]; rfl
    em := fun _ _ => by kernel_rfl
    er := fun _ _ => by kernel_rfl
    ek := fun _ _ => by kernel_rfl
    may := fun W eb hb hE => by rw [href]; exact mayOpen_any (h.below hb) ho.chart hE (by have := hz.account; omega)
    rows := fun hr W eb hb hE => by
      have h0 : rowsOf S e = [] := by unfold rowsOf; simp [hk]
      rw [h0]
      exact (none_any bb eb W).mono fun en w' ⟨h1, h2⟩ => ⟨_, h1, World.ownsRow_nil _ _ _ _, h2 ▸ Below.refl _ _⟩ }

theorem act_2 (h : BookAt w F bb S) (ht : OkT S) (hz : SmallEv e) (hin : InEv e) (hL : LinesAt w R lv e.lines) (hf : fieldsB e = true) (hk : e.kind = 2) :
    ActOk w bb S e lv false 59 57 60 := by
  have ho := ht.ok
  have href : refuseE S e = mayCloseE S e := by unfold refuseE; simp [hk]
  exact {
    acts := fun W => by rw [hk]; exact acts2 W
    keyed := by rw [hk]; rfl
    em := fun _ _ => by kernel_rfl
    er := fun _ _ => by kernel_rfl
    ek := fun _ _ => by kernel_rfl
    may := fun W eb hb hE => by rw [href]; exact mayClose_any (h.below hb) ho hE
    rows := fun hr W eb hb hE => by
      have h0 : rowsOf S e = [] := by unfold rowsOf; simp [hk]
      rw [h0]
      exact (none_any bb eb W).mono fun en w' ⟨h1, h2⟩ => ⟨_, h1, World.ownsRow_nil _ _ _ _, h2 ▸ Below.refl _ _⟩ }

theorem act_3 (h : BookAt w F bb S) (ht : OkT S) (hz : SmallEv e) (hin : InEv e) (hL : LinesAt w R lv e.lines) (hf : fieldsB e = true) (hk : e.kind = 3) :
    ActOk w bb S e lv true 61 62 63 := by
  have ho := ht.ok
  have href : refuseE S e = mayPostE S e := by unfold refuseE; simp [hk]
  have hfit : fitB e.lines = true := by
    unfold fieldsB at hf
    simp [hk] at hf
    exact hf.2
  obtain ⟨hl12, hamt⟩ := fit_amt hfit hin
  exact {
    acts := fun W => by rw [hk]; exact acts3 W
    keyed := by rw [hk]; rfl
    em := fun _ _ => by kernel_rfl
    er := fun _ _ => by kernel_rfl
    ek := fun _ _ => by kernel_rfl
    may := fun W eb hb hE => by rw [href]; exact mayPost_any (h.below hb) hE R (hL.below hb) hl12 fun x hx => by have := hamt x hx; unfold maxA at this; omega
    rows := fun hr W eb hb hE => posted_any (h.below hb) ⟨ho.ev0, ho.ev1⟩ hE R (hL.below hb) hl12 hamt hk }

theorem act_4 (h : BookAt w F bb S) (ht : OkT S) (hz : SmallEv e) (hin : InEv e) (hL : LinesAt w R lv e.lines) (hf : fieldsB e = true) (hk : e.kind = 4) :
    ActOk w bb S e lv true 64 65 66 := by
  have ho := ht.ok
  have href : refuseE S e = mayVoidE S e := by unfold refuseE; simp [hk]
  exact {
    acts := fun W => by rw [hk]; exact acts4 W
    keyed := by rw [hk]; rfl
    em := fun _ _ => by kernel_rfl
    er := fun _ _ => by kernel_rfl
    ek := fun _ _ => by kernel_rfl
    may := fun W eb hb hE => by rw [href]; exact mayVoid_any (h.below hb) ho hE
    rows := fun hr W eb hb hE => by
      have h0 : entryOf S e.ref ≠ none := fun h1 => by rw [href] at hr; unfold mayVoidE at hr; rw [h1] at hr; simp at hr
      cases hx : entryOf S e.ref with
      | none => exact absurd hx h0
      | some x =>
        obtain ⟨i, hi, hix, hxe⟩ := entry_ix hx
        exact voided_any (h.below hb) ho hE i hi hix hk (ht.entAmt _ (List.getElem_mem hi)) }

theorem act_5 (h : BookAt w F bb S) (ht : OkT S) (hz : SmallEv e) (hin : InEv e) (hL : LinesAt w R lv e.lines) (hf : fieldsB e = true) (hk : e.kind = 5) :
    ActOk w bb S e lv true 67 68 69 := by
  have ho := ht.ok
  have href : refuseE S e = mayTradeE S e 4 := by unfold refuseE; simp [hk]
  have hpos : 0 < e.amount ∧ e.amount ≤ maxA := by
    unfold fieldsB at hf
    simp [hk] at hf
    have := hin.amount
    refine ⟨?_, this.2⟩
    omega
  exact {
    acts := fun W => by rw [hk]; exact acts5 W
    keyed := by rw [hk]; rfl
    em := fun _ _ => by kernel_rfl
    er := fun _ _ => by kernel_rfl
    ek := fun _ _ => by kernel_rfl
    may := fun W eb hb hE => by rw [href]; exact mayInvoice_any (h.below hb) hE
    rows := fun hr W eb hb hE => invoiced_any (h.below hb) ⟨ho.ev0, ho.ev1⟩ hE hpos hk }

theorem act_6 (h : BookAt w F bb S) (ht : OkT S) (hz : SmallEv e) (hin : InEv e) (hL : LinesAt w R lv e.lines) (hf : fieldsB e = true) (hk : e.kind = 6) :
    ActOk w bb S e lv true 70 71 69 := by
  have ho := ht.ok
  have href : refuseE S e = mayTradeE S e 1 := by unfold refuseE; simp [hk]
  have hpos : 0 < e.amount ∧ e.amount ≤ maxA := by
    unfold fieldsB at hf
    simp [hk] at hf
    have := hin.amount
    refine ⟨?_, this.2⟩
    omega
  exact {
    acts := fun W => by rw [hk]; exact acts6 W
    keyed := by rw [hk]; rfl
    em := fun _ _ => by kernel_rfl
    er := fun _ _ => by kernel_rfl
    ek := fun _ _ => by kernel_rfl
    may := fun W eb hb hE => by rw [href]; exact mayPay_any (h.below hb) hE
    rows := fun hr W eb hb hE => paid_any (h.below hb) ⟨ho.ev0, ho.ev1⟩ hE hpos hk }

theorem act_7 (h : BookAt w F bb S) (ht : OkT S) (hz : SmallEv e) (hin : InEv e) (hL : LinesAt w R lv e.lines) (hf : fieldsB e = true) (hk : e.kind = 7) :
    ActOk w bb S e lv true 72 57 73 := by
  have ho := ht.ok
  have href : refuseE S e = mayAllotE S e := by unfold refuseE; simp [hk]
  exact {
    acts := fun W => by rw [hk]; exact acts7 W
    keyed := by rw [hk]; rfl
    em := fun _ _ => by kernel_rfl
    er := fun _ _ => by kernel_rfl
    ek := fun _ _ => by kernel_rfl
    may := fun W eb hb hE => by rw [href]; exact mayAllot_any (h.below hb) ho hE
    rows := fun hr W eb hb hE => by
      have h0 : rowsOf S e = [] := by unfold rowsOf; simp [hk]
      rw [h0]
      exact (none_any bb eb W).mono fun en w' ⟨h1, h2⟩ => ⟨_, h1, World.ownsRow_nil _ _ _ _, h2 ▸ Below.refl _ _⟩ }

theorem act_8 (h : BookAt w F bb S) (ht : OkT S) (hz : SmallEv e) (hin : InEv e) (hL : LinesAt w R lv e.lines) (hf : fieldsB e = true) (hk : e.kind = 8) :
    ActOk w bb S e lv false 74 57 75 := by
  have ho := ht.ok
  have href : refuseE S e = mayLockE S e := by unfold refuseE; simp [hk]
  exact {
    acts := fun W => by rw [hk]; exact acts8 W
    keyed := by rw [hk]; rfl
    em := fun _ _ => by kernel_rfl
    er := fun _ _ => by kernel_rfl
    ek := fun _ _ => by kernel_rfl
    may := fun W eb hb hE => by rw [href]; exact mayLock_any (h.below hb) hE
    rows := fun hr W eb hb hE => by
      have h0 : rowsOf S e = [] := by unfold rowsOf; simp [hk]
      rw [h0]
      exact (none_any bb eb W).mono fun en w' ⟨h1, h2⟩ => ⟨_, h1, World.ownsRow_nil _ _ _ _, h2 ▸ Below.refl _ _⟩ }

theorem act_any (h : BookAt w F bb S) (ht : OkT S) (hz : SmallEv e) (hin : InEv e) (hL : LinesAt w R lv e.lines) (hf : fieldsB e = true) : ∃ kd fm fr fk, ActOk w bb S e lv kd fm fr fk := by
  by_cases k1 : e.kind = 1
  · exact ⟨_, _, _, _, act_1 h ht hz hin hL hf k1⟩
  by_cases k2 : e.kind = 2
  · exact ⟨_, _, _, _, act_2 h ht hz hin hL hf k2⟩
  by_cases k3 : e.kind = 3
  · exact ⟨_, _, _, _, act_3 h ht hz hin hL hf k3⟩
  by_cases k4 : e.kind = 4
  · exact ⟨_, _, _, _, act_4 h ht hz hin hL hf k4⟩
  by_cases k5 : e.kind = 5
  · exact ⟨_, _, _, _, act_5 h ht hz hin hL hf k5⟩
  by_cases k6 : e.kind = 6
  · exact ⟨_, _, _, _, act_6 h ht hz hin hL hf k6⟩
  by_cases k7 : e.kind = 7
  · exact ⟨_, _, _, _, act_7 h ht hz hin hL hf k7⟩
  have k8 : e.kind = 8 := by
    unfold fieldsB at hf
    simp [k1, k2, k3, k4, k5, k6, k7] at hf
    exact hf
  exact ⟨_, _, _, _, act_8 h ht hz hin hL hf k8⟩
end
end Go.Proofs.YtgocoofcelggcaaGreatDoor
namespace Go.Proofs.YtgocoofcelggcaaGreatDoor
open Go.RowKit
set_option linter.unusedVariables false
set_option linter.unusedSimpArgs false

theorem ev_cells {W : World} {B : Nat} {e : EventV} {lv : Value} (h : EvAt W B e lv) : W.cell? ⟨B, 0, none⟩ = some (.int .i64 e.kind) ∧ W.cell? ⟨B, 1, none⟩ = some (.int .i64 e.day) ∧ W.cell? ⟨B, 2, none⟩ = some (.string e.key) ∧ W.cell? ⟨B, 3, none⟩ = some (.string e.account) ∧ W.cell? ⟨B, 4, none⟩ = some (.string e.other) ∧ W.cell? ⟨B, 5, none⟩ = some (.string e.ref) ∧ W.cell? ⟨B, 6, none⟩ = some (.string e.ref2) ∧ W.cell? ⟨B, 7, none⟩ = some (.int .i64 e.typ) ∧ W.cell? ⟨B, 8, none⟩ = some (.int .i64 e.due) ∧ W.cell? ⟨B, 9, none⟩ = some (.int .i64 e.amount) ∧ W.cell? ⟨B, 10, none⟩ = some (.string e.memo) ∧ W.cell? ⟨B, 11, none⟩ = some (lv) :=
  ⟨h.e0, h.e1, h.e2, h.e3, h.e4, h.e5, h.e6, h.e7, h.e8, h.e9, h.e10, h.e11⟩

/-- What Check's walk leans on: W0: the world behind the event's box B; RV: what is told. -/
structure ChkCtx (W0 : World) (B bb : Nat) (S : BookS) (p : Pl) (e : EventV) (lv : Value) : Prop where
  ev : ∀ W, Below W0.heap.size W0 W → EvAt W B e lv
  c0 : ∀ W, Below W0.heap.size W0 W → W.cell? ⟨bb, 0, none⟩ = some (.int .i64 S.events)
  c3 : ∀ W, Below W0.heap.size W0 W → W.cell? ⟨bb, 3, none⟩ = some (.map (some p.mK))
  c12 : ∀ W, Below W0.heap.size W0 W → W.cell? ⟨bb, 12, none⟩ = some (.int .i64 S.lock)
  known : ∃ ps, StrMap W0 p.mK ps ∧ KnownI S.keys ps
set_option maxRecDepth 100000 in
set_option maxHeartbeats 8000000 in
theorem chk_bad {w : World} {bb : Nat} {S : BookS} {p : Pl} {e : EventV} {lv : Value} (hX : ChkCtx (w.alloc (.cells (evCs e lv) 25)) w.heap.size bb S p e lv)
    (hchk : ∀ W, Below (w.alloc (.cells (evCs e lv) 25)).heap.size (w.alloc (.cells (evCs e lv) 25)) W → Calls Tryz.prog 38 #[evV e lv] W fun en w' => en = .returned (.int .i64 50) ∧ Below W.heap.size W w') :
    Calls Tryz.prog 21 #[ptrV bb, evV e lv] w fun en w' => en = .returned (.int .i64 (50)) ∧ Below w.heap.size w w' := by
  have HX := Lib.hid hX
  have hc0 := hchk _ (Below.refl _ _)
  unfold evCs at hc0 HX
  unfold evV at hc0
  have HW := Lib.hid (bel1 w (.cells #[.int .i64 e.kind, .int .i64 e.day, .string e.key, .string e.account, .string e.other, .string e.ref, .string e.ref2, .int .i64 e.typ, .int .i64 e.due, .int .i64 e.amount, .string e.memo, lv] 25))
  clear hX hchk
  unfold ptrV evV
  go_enter Tryz.func21, Tryz.ntmps21
  go_wp2_with (go_at_call 38; refine hc0.mono ?_; rintro en w1 ⟨rfl, hb1⟩; have HB1 := Lib.hid hb1; have e0' := (HX.out.ev w1 hb1).e0; clear hc0 hb1)
  go_ret
  exact ⟨rfl, HW.out.trans (HB1.out.mono HW.out.size)⟩

set_option maxRecDepth 100000 in
set_option maxHeartbeats 8000000 in
theorem chk_many {w : World} {bb : Nat} {S : BookS} {p : Pl} {e : EventV} {lv : Value} (hX : ChkCtx (w.alloc (.cells (evCs e lv) 25)) w.heap.size bb S p e lv)
    (hchk : ∀ W, Below (w.alloc (.cells (evCs e lv) 25)).heap.size (w.alloc (.cells (evCs e lv) 25)) W → Calls Tryz.prog 38 #[evV e lv] W fun en w' => en = .returned (.int .i64 0) ∧ Below W.heap.size W w')
    {kd : Bool} {fm fr fk : Nat} (hact : ActOk (w.alloc (.cells (evCs e lv) 25)) bb S e lv kd fm fr fk) (hm : 1000 ≤ S.events) :
    Calls Tryz.prog 21 #[ptrV bb, evV e lv] w fun en w' => en = .returned (.int .i64 (2)) ∧ Below w.heap.size w w' := by
  have HX := Lib.hid hX
  have hc0 := hchk _ (Below.refl _ _)
  unfold evCs at hc0 HX
  unfold evV at hc0
  have HW := Lib.hid (bel1 w (.cells #[.int .i64 e.kind, .int .i64 e.day, .string e.key, .string e.account, .string e.other, .string e.ref, .string e.ref2, .int .i64 e.typ, .int .i64 e.due, .int .i64 e.amount, .string e.memo, lv] 25))
  have HA := Lib.hid hact.acts
  clear hX hchk hact
  unfold ptrV evV
  go_enter Tryz.func21, Tryz.ntmps21
  go_wp2_with (first | (go_at_call 38; refine hc0.mono ?_; rintro en w1 ⟨rfl, hb1⟩; have HB1 := Lib.hid hb1; have e0' := (HX.out.ev w1 hb1).e0; clear hc0 hb1) | (go_at_call 39; refine (HA.out w1).mono ?_; rintro en w2 ⟨rfl, hb2⟩; have HB2 := Lib.hid (HB1.out.trans (hb2.mono HB1.out.size)); have hc0a := fun o => HX.out.c0 (w2.alloc o) (HB2.out.alloc HB2.out.size o); clear hb2))
  go_ret
  exact ⟨rfl, (HW.out.trans (HB2.out.mono HW.out.size)).alloc (Nat.le_trans HW.out.size HB2.out.size) _⟩

end Go.Proofs.YtgocoofcelggcaaGreatDoor
namespace Go.Proofs.YtgocoofcelggcaaGreatDoor
open Go.RowKit
set_option linter.unusedVariables false
set_option linter.unusedSimpArgs false

set_option maxRecDepth 100000 in
set_option maxHeartbeats 8000000 in
theorem chk_long {w : World} {bb : Nat} {S : BookS} {p : Pl} {e : EventV} {lv : Value} (hX : ChkCtx (w.alloc (.cells (evCs e lv) 25)) w.heap.size bb S p e lv)
    (hchk : ∀ W, Below (w.alloc (.cells (evCs e lv) 25)).heap.size (w.alloc (.cells (evCs e lv) 25)) W → Calls Tryz.prog 38 #[evV e lv] W fun en w' => en = .returned (.int .i64 0) ∧ Below W.heap.size W w')
    {kd : Bool} {fm fr fk : Nat} (hact : ActOk (w.alloc (.cells (evCs e lv) 25)) bb S e lv kd fm fr fk) (hm : S.events < 1000)
    (hgrow : ∀ W v B, W.ownsRow B 39 9 v (rowsOf S e).length ((rowsOf S e).map encPost).flatten → Below (w.alloc (.cells (evCs e lv) 25)).heap.size (w.alloc (.cells (evCs e lv) 25)) W →
      Calls Tryz.prog 40 #[ptrV bb, v] W fun en w' => en = .returned (grownV (grownF S.turnover (rowsOf S e))) ∧ Below W.heap.size W w')
    (RV r : Int) (hr : r = refuseE S e) (hRV : RV = if (kd && usedB S e.key) = true then 70 else if e.kind ≠ 8 ∧ e.day ≤ S.lock then 71 else if r ≠ 0 then r else if (grownF S.turnover (rowsOf S e)).isSome then 0 else 11) :
    Calls Tryz.prog 21 #[ptrV bb, evV e lv] w fun en w' => en = .returned (.int .i64 (RV)) ∧ Below w.heap.size w w' := by
  have HX := Lib.hid hX
  have hc0 := hchk _ (Below.refl _ _)
  unfold evCs at hc0 HX
  unfold evV at hc0
  have HW := Lib.hid (bel1 w (.cells #[.int .i64 e.kind, .int .i64 e.day, .string e.key, .string e.account, .string e.other, .string e.ref, .string e.ref2, .int .i64 e.typ, .int .i64 e.due, .int .i64 e.amount, .string e.memo, lv] 25))
  have HA := Lib.hid hact.acts
  have hma := hact.may
  have hem := hact.em
  have her := hact.er
  have hro := hact.rows
  rw [← hr] at hma hro
  obtain ⟨ps, hps, hI⟩ := hX.known
  unfold evCs at hma hro hgrow hps
  have HM := Lib.hid hma
  have HRW := Lib.hid hro
  have HG := Lib.hid hgrow
  have HPS := Lib.hid hps
  have HI := Lib.hid hI
  have HRV := Lib.hid hRV
  clear hX hchk hact hma hro hgrow hps hI hRV hr
  unfold ptrV evV
  go_enter Tryz.func21, Tryz.ntmps21
  go_wp2_with (first | (go_at_call 38; refine hc0.mono ?_; rintro en w1 ⟨rfl, hb1⟩; have HB1 := Lib.hid hb1; have e0' := (HX.out.ev w1 hb1).e0; clear hc0 hb1) | (go_at_call 39; refine (HA.out w1).mono ?_; rintro en w2 ⟨rfl, hb2⟩; have HB2 := Lib.hid (HB1.out.trans (hb2.mono HB1.out.size)); have hc0a := fun o => HX.out.c0 (w2.alloc o) (HB2.out.alloc HB2.out.size o); clear hb2))
  have hk3 := World.alloc_heap_new w2 (.cells #[.bool kd, .func (.func fm) #[] #[], .func (.func fr) #[] #[], .func (.func fk) #[] #[]] 99)
  have hB3 := HB2.out.alloc HB2.out.size (.cells #[.bool kd, .func (.func fm) #[] #[], .func (.func fr) #[] #[], .func (.func fk) #[] #[]] 99)
  obtain ⟨b3, hb3⟩ : ∃ b, b = w2.heap.size := ⟨_, rfl⟩
  obtain ⟨W3, hW3⟩ : ∃ W3, w2.alloc (.cells #[.bool kd, .func (.func fm) #[] #[], .func (.func fr) #[] #[], .func (.func fk) #[] #[]] 99) = W3 := ⟨_, rfl⟩
  rw [← hb3] at hk3 ⊢
  rw [hW3] at hk3 hB3 ⊢
  have hst : ∀ V, Below (w.alloc (.cells #[.int .i64 e.kind, .int .i64 e.day, .string e.key, .string e.account, .string e.other, .string e.ref, .string e.ref2, .int .i64 e.typ, .int .i64 e.due, .int .i64 e.amount, .string e.memo, lv] 25)).heap.size (w.alloc (.cells #[.int .i64 e.kind, .int .i64 e.day, .string e.key, .string e.account, .string e.other, .string e.ref, .string e.ref2, .int .i64 e.typ, .int .i64 e.due, .int .i64 e.amount, .string e.memo, lv] 25)) V → V.heap[b3]? = some (.cells #[.bool kd, .func (.func fm) #[] #[], .func (.func fr) #[] #[], .func (.func fk) #[] #[]] 99 (0, 0)) → V.cell? ⟨bb, 3, none⟩ = some (.map (some p.mK)) ∧ V.cell? ⟨bb, 12, none⟩ = some (.int .i64 S.lock) ∧ V.cell? ⟨w.heap.size, 0, none⟩ = some (.int .i64 e.kind) ∧ V.cell? ⟨w.heap.size, 1, none⟩ = some (.int .i64 e.day) ∧ V.cell? ⟨w.heap.size, 2, none⟩ = some (.string e.key) ∧ V.cell? ⟨b3, 0, none⟩ = some (.bool kd) ∧ V.cell? ⟨b3, 1, none⟩ = some (.func (.func fm) #[] #[]) ∧ V.cell? ⟨b3, 2, none⟩ = some (.func (.func fr) #[] #[]) := fun V hb hk => by
    have hE := HX.out.ev V hb
    exact ⟨HX.out.c3 V hb, HX.out.c12 V hb, hE.e0, hE.e1, hE.e2, by rw [cell_of_blk hk]; rfl, by rw [cell_of_blk hk]; rfl, by rw [cell_of_blk hk]; rfl⟩
  have HST := Lib.hid hst
  obtain ⟨d3, d12, d0, d1, d2, k0, k1, k2⟩ := hst W3 hB3 hk3
  clear hst hc0a e0' hb3 hW3
  cases kd with
  | false =>
    have TL := Lib.hid (show RV = if e.kind ≠ 8 ∧ e.day ≤ S.lock then 71 else if r ≠ 0 then r else if (grownF S.turnover (rowsOf S e)).isSome then 0 else 11 by rw [HRV.out, if_neg (by simp)])
    clear HRV
    go_quiet (fail)
    have hB4 := below_drewN hB3 nq
    have hk4 : (W3.drewN nq).heap[b3]? = _ := hk3
    clear d3 d12 d0 d1 d2 k0 k1 k2
    obtain ⟨d3, d12, d0, d1, d2, k0, k1, k2⟩ := HST.out _ hB4 hk4
    generalize W3.drewN nq = V1 at hB4 hk4 d3 d12 d0 d1 d2 k0 k1 k2 ⊢
    by_cases h8 : e.kind = 8
    · have he8 : (e.kind != 8) = false := by simp [h8]
      have TAIL := Lib.hid (show RV = if r ≠ 0 then r else if (grownF S.turnover (rowsOf S e)).isSome then 0 else 11 by rw [TL.out, if_neg (by simp [h8])])
      clear h8
      go_wp2
      go_quiet (fail)
      have hB5 := below_drewN hB4 nq
      have hk5 : (V1.drewN nq).heap[b3]? = _ := hk4
      clear d3 d12 d0 d1 d2 k0 k1 k2
      obtain ⟨d3, d12, d0, d1, d2, k0, k1, k2⟩ := HST.out _ hB5 hk5
      generalize V1.drewN nq = V2 at hB5 hk5 d3 d12 d0 d1 d2 k0 k1 k2 ⊢
      have hmay := HM.out V2 w.heap.size hB5 (HX.out.ev V2 hB5)
      unfold ptrV at hmay
      by_cases hr0 : r = 0
      · subst hr0
        cases hgr : grownF S.turnover (rowsOf S e) with
        | none =>
          have hgrow := HG.out
          rw [hgr] at hgrow
          unfold grownV ptrV at hgrow
          have HR := Lib.hid (show RV = 11 by rw [TAIL.out, if_neg (by simp), hgr]; rfl)
          clear hgr
          go_wp2_with (first | (refine hmay.mono ?_; rintro en w4 ⟨rfl, hb4⟩; have HB6 := Lib.hid (hB5.trans (hb4.mono hB5.size)); have hk6 := (hb4.block b3 (heap_lt hk5)).trans hk5; obtain ⟨m3, m12, m0, m1, m2, j0, j1, j2⟩ := HST.out w4 HB6.out hk6; have hrow := HRW.out rfl w4 w.heap.size HB6.out (HX.out.ev w4 HB6.out); unfold ptrV at hrow; clear hmay hb4 d3 d12 d0 d1 d2 k0 k1 k2) | (refine hrow.mono ?_; rintro en w5 ⟨rv, rfl, hown, hb5⟩; have HB7 := Lib.hid (HB6.out.trans (hb5.mono HB6.out.size)); have hgw := hgrow w5 rv _ hown HB7.out; clear hrow hgrow hb5 hown) | (go_at_call 40; refine hgw.mono ?_; rintro en w6 ⟨rfl, hb6⟩; have HB8 := Lib.hid (HB7.out.trans (hb6.mono HB7.out.size)); clear hgw hb6))
          go_ret
          exact ⟨by rw [HR.out] <;> rfl, HW.out.trans (HB8.out.mono HW.out.size)⟩
        | some t =>
          have hgrow := HG.out
          rw [hgr] at hgrow
          unfold grownV ptrV at hgrow
          have HR := Lib.hid (show RV = 0 by rw [TAIL.out, if_neg (by simp), hgr]; rfl)
          clear hgr
          go_wp2_with (first | (refine hmay.mono ?_; rintro en w4 ⟨rfl, hb4⟩; have HB6 := Lib.hid (hB5.trans (hb4.mono hB5.size)); have hk6 := (hb4.block b3 (heap_lt hk5)).trans hk5; obtain ⟨m3, m12, m0, m1, m2, j0, j1, j2⟩ := HST.out w4 HB6.out hk6; have hrow := HRW.out rfl w4 w.heap.size HB6.out (HX.out.ev w4 HB6.out); unfold ptrV at hrow; clear hmay hb4 d3 d12 d0 d1 d2 k0 k1 k2) | (refine hrow.mono ?_; rintro en w5 ⟨rv, rfl, hown, hb5⟩; have HB7 := Lib.hid (HB6.out.trans (hb5.mono HB6.out.size)); have hgw := hgrow w5 rv _ hown HB7.out; clear hrow hgrow hb5 hown) | (go_at_call 40; refine hgw.mono ?_; rintro en w6 ⟨rfl, hb6⟩; have HB8 := Lib.hid (HB7.out.trans (hb6.mono HB7.out.size)); clear hgw hb6))
          go_ret
          exact ⟨by rw [HR.out] <;> rfl, HW.out.trans (HB8.out.mono HW.out.size)⟩
      · have HR := Lib.hid (show RV = r by rw [TAIL.out, if_pos hr0])
        have he : (r != 0) = true := by rw [bne_iff_ne]; exact hr0
        clear hr0
        go_wp2_with (refine hmay.mono ?_; rintro en w4 ⟨rfl, hb4⟩; have HB6 := Lib.hid (hB5.trans (hb4.mono hB5.size)); have hk6 := (hb4.block b3 (heap_lt hk5)).trans hk5; obtain ⟨m3, m12, m0, m1, m2, j0, j1, j2⟩ := HST.out w4 HB6.out hk6; clear hmay hb4 d3 d12 d0 d1 d2 k0 k1 k2)
        go_ret
        exact ⟨by rw [HR.out] <;> rfl, HW.out.trans (HB6.out.mono HW.out.size)⟩
    · have he8 : (e.kind != 8) = true := by simp [h8]
      by_cases hd : e.day ≤ S.lock
      · have HR := Lib.hid (show RV = 71 by rw [TL.out, if_pos ⟨h8, hd⟩])
        clear h8
        go_wp2
        go_quiet (fail)
        go_wp2
        go_ret
        exact ⟨by rw [HR.out] <;> rfl, HW.out.trans ((below_drewN hB4 _).mono HW.out.size)⟩
      · have TAIL := Lib.hid (show RV = if r ≠ 0 then r else if (grownF S.turnover (rowsOf S e)).isSome then 0 else 11 by rw [TL.out, if_neg (by simp [hd])])
        have hd' : S.lock < e.day := by omega
        have hd2 : decide (e.day ≤ S.lock) = false := decide_eq_false hd
        clear h8 hd
        go_wp2
        go_quiet (fail)
        have hB5 := below_drewN hB4 nq
        have hk5 : (V1.drewN nq).heap[b3]? = _ := hk4
        clear d3 d12 d0 d1 d2 k0 k1 k2
        obtain ⟨d3, d12, d0, d1, d2, k0, k1, k2⟩ := HST.out _ hB5 hk5
        generalize V1.drewN nq = V2 at hB5 hk5 d3 d12 d0 d1 d2 k0 k1 k2 ⊢
        have hmay := HM.out V2 w.heap.size hB5 (HX.out.ev V2 hB5)
        unfold ptrV at hmay
        by_cases hr0 : r = 0
        · subst hr0
          cases hgr : grownF S.turnover (rowsOf S e) with
          | none =>
            have hgrow := HG.out
            rw [hgr] at hgrow
            unfold grownV ptrV at hgrow
            have HR := Lib.hid (show RV = 11 by rw [TAIL.out, if_neg (by simp), hgr]; rfl)
            clear hgr
            go_wp2_with (first | (refine hmay.mono ?_; rintro en w4 ⟨rfl, hb4⟩; have HB6 := Lib.hid (hB5.trans (hb4.mono hB5.size)); have hk6 := (hb4.block b3 (heap_lt hk5)).trans hk5; obtain ⟨m3, m12, m0, m1, m2, j0, j1, j2⟩ := HST.out w4 HB6.out hk6; have hrow := HRW.out rfl w4 w.heap.size HB6.out (HX.out.ev w4 HB6.out); unfold ptrV at hrow; clear hmay hb4 d3 d12 d0 d1 d2 k0 k1 k2) | (refine hrow.mono ?_; rintro en w5 ⟨rv, rfl, hown, hb5⟩; have HB7 := Lib.hid (HB6.out.trans (hb5.mono HB6.out.size)); have hgw := hgrow w5 rv _ hown HB7.out; clear hrow hgrow hb5 hown) | (go_at_call 40; refine hgw.mono ?_; rintro en w6 ⟨rfl, hb6⟩; have HB8 := Lib.hid (HB7.out.trans (hb6.mono HB7.out.size)); clear hgw hb6))
            go_ret
            exact ⟨by rw [HR.out] <;> rfl, HW.out.trans (HB8.out.mono HW.out.size)⟩
          | some t =>
            have hgrow := HG.out
            rw [hgr] at hgrow
            unfold grownV ptrV at hgrow
            have HR := Lib.hid (show RV = 0 by rw [TAIL.out, if_neg (by simp), hgr]; rfl)
            clear hgr
            go_wp2_with (first | (refine hmay.mono ?_; rintro en w4 ⟨rfl, hb4⟩; have HB6 := Lib.hid (hB5.trans (hb4.mono hB5.size)); have hk6 := (hb4.block b3 (heap_lt hk5)).trans hk5; obtain ⟨m3, m12, m0, m1, m2, j0, j1, j2⟩ := HST.out w4 HB6.out hk6; have hrow := HRW.out rfl w4 w.heap.size HB6.out (HX.out.ev w4 HB6.out); unfold ptrV at hrow; clear hmay hb4 d3 d12 d0 d1 d2 k0 k1 k2) | (refine hrow.mono ?_; rintro en w5 ⟨rv, rfl, hown, hb5⟩; have HB7 := Lib.hid (HB6.out.trans (hb5.mono HB6.out.size)); have hgw := hgrow w5 rv _ hown HB7.out; clear hrow hgrow hb5 hown) | (go_at_call 40; refine hgw.mono ?_; rintro en w6 ⟨rfl, hb6⟩; have HB8 := Lib.hid (HB7.out.trans (hb6.mono HB7.out.size)); clear hgw hb6))
            go_ret
            exact ⟨by rw [HR.out] <;> rfl, HW.out.trans (HB8.out.mono HW.out.size)⟩
        · have HR := Lib.hid (show RV = r by rw [TAIL.out, if_pos hr0])
          have he : (r != 0) = true := by rw [bne_iff_ne]; exact hr0
          clear hr0
          go_wp2_with (refine hmay.mono ?_; rintro en w4 ⟨rfl, hb4⟩; have HB6 := Lib.hid (hB5.trans (hb4.mono hB5.size)); have hk6 := (hb4.block b3 (heap_lt hk5)).trans hk5; obtain ⟨m3, m12, m0, m1, m2, j0, j1, j2⟩ := HST.out w4 HB6.out hk6; clear hmay hb4 d3 d12 d0 d1 d2 k0 k1 k2)
          go_ret
          exact ⟨by rw [HR.out] <;> rfl, HW.out.trans (HB6.out.mono HW.out.size)⟩
  | true =>
    have hkn := HI.out e.key
    cases hu : usedB S e.key with
    | true =>
      have HR := Lib.hid (show RV = 70 by rw [HRV.out, if_pos (by simp [hu])])
      have hmem : e.key ∈ S.keys := by
        unfold usedB at hu
        obtain ⟨x, hx, hxe⟩ := List.any_eq_true.1 hu
        rw [← of_decide_eq_true hxe]
        exact hx
      obtain ⟨n0, hn0, hget⟩ := hkn.2 hmem
      have hlk : ∀ n, Sem.run Tryz.prog (Instr.lookup 73 (.map (some p.mK)) (.string e.key) false) (W3.drewN n) = .ok (.int .i64 n0) (W3.drewN n) := fun n => by
        have := run_lookup_strmap ((HPS.out.keep (hB3.block _ HPS.out.lt)).drewN n) Tryz.underlying73 Tryz.underlying9 Tryz.zeroValue3 e.key
        rw [hget] at this
        exact this
      clear hkn hget hmem hu
      go_quiet (fail)
      go_wp2
      go_ret
      exact ⟨by rw [HR.out] <;> rfl, HW.out.trans ((below_drewN hB3 _).mono HW.out.size)⟩
    | false =>
      have TL := Lib.hid (show RV = if e.kind ≠ 8 ∧ e.day ≤ S.lock then 71 else if r ≠ 0 then r else if (grownF S.turnover (rowsOf S e)).isSome then 0 else 11 by rw [HRV.out, if_neg (by simp [hu])])
      have hmem : e.key ∉ S.keys := fun hm => by
        have : usedB S e.key = true := List.any_eq_true.2 ⟨e.key, hm, by simp⟩
        rw [hu] at this
        cases this
      have hget := hkn.1 hmem
      have hlk : ∀ n, Sem.run Tryz.prog (Instr.lookup 73 (.map (some p.mK)) (.string e.key) false) (W3.drewN n) = .ok (.int .i64 0) (W3.drewN n) := fun n => by
        have := run_lookup_strmap ((HPS.out.keep (hB3.block _ HPS.out.lt)).drewN n) Tryz.underlying73 Tryz.underlying9 Tryz.zeroValue3 e.key
        rw [hget] at this
        exact this
      clear hkn hget hmem HRV hu
      go_quiet (fail)
      have hB4 := below_drewN hB3 nq
      have hk4 : (W3.drewN nq).heap[b3]? = _ := hk3
      clear d3 d12 d0 d1 d2 k0 k1 k2
      obtain ⟨d3, d12, d0, d1, d2, k0, k1, k2⟩ := HST.out _ hB4 hk4
      generalize W3.drewN nq = V1 at hB4 hk4 d3 d12 d0 d1 d2 k0 k1 k2 ⊢
      clear hlk
      by_cases h8 : e.kind = 8
      · have he8 : (e.kind != 8) = false := by simp [h8]
        have TAIL := Lib.hid (show RV = if r ≠ 0 then r else if (grownF S.turnover (rowsOf S e)).isSome then 0 else 11 by rw [TL.out, if_neg (by simp [h8])])
        clear h8
        go_wp2
        go_quiet (fail)
        have hB5 := below_drewN hB4 nq
        have hk5 : (V1.drewN nq).heap[b3]? = _ := hk4
        clear d3 d12 d0 d1 d2 k0 k1 k2
        obtain ⟨d3, d12, d0, d1, d2, k0, k1, k2⟩ := HST.out _ hB5 hk5
        generalize V1.drewN nq = V2 at hB5 hk5 d3 d12 d0 d1 d2 k0 k1 k2 ⊢
        have hmay := HM.out V2 w.heap.size hB5 (HX.out.ev V2 hB5)
        unfold ptrV at hmay
        by_cases hr0 : r = 0
        · subst hr0
          cases hgr : grownF S.turnover (rowsOf S e) with
          | none =>
            have hgrow := HG.out
            rw [hgr] at hgrow
            unfold grownV ptrV at hgrow
            have HR := Lib.hid (show RV = 11 by rw [TAIL.out, if_neg (by simp), hgr]; rfl)
            clear hgr
            go_wp2_with (first | (refine hmay.mono ?_; rintro en w4 ⟨rfl, hb4⟩; have HB6 := Lib.hid (hB5.trans (hb4.mono hB5.size)); have hk6 := (hb4.block b3 (heap_lt hk5)).trans hk5; obtain ⟨m3, m12, m0, m1, m2, j0, j1, j2⟩ := HST.out w4 HB6.out hk6; have hrow := HRW.out rfl w4 w.heap.size HB6.out (HX.out.ev w4 HB6.out); unfold ptrV at hrow; clear hmay hb4 d3 d12 d0 d1 d2 k0 k1 k2) | (refine hrow.mono ?_; rintro en w5 ⟨rv, rfl, hown, hb5⟩; have HB7 := Lib.hid (HB6.out.trans (hb5.mono HB6.out.size)); have hgw := hgrow w5 rv _ hown HB7.out; clear hrow hgrow hb5 hown) | (go_at_call 40; refine hgw.mono ?_; rintro en w6 ⟨rfl, hb6⟩; have HB8 := Lib.hid (HB7.out.trans (hb6.mono HB7.out.size)); clear hgw hb6))
            go_ret
            exact ⟨by rw [HR.out] <;> rfl, HW.out.trans (HB8.out.mono HW.out.size)⟩
          | some t =>
            have hgrow := HG.out
            rw [hgr] at hgrow
            unfold grownV ptrV at hgrow
            have HR := Lib.hid (show RV = 0 by rw [TAIL.out, if_neg (by simp), hgr]; rfl)
            clear hgr
            go_wp2_with (first | (refine hmay.mono ?_; rintro en w4 ⟨rfl, hb4⟩; have HB6 := Lib.hid (hB5.trans (hb4.mono hB5.size)); have hk6 := (hb4.block b3 (heap_lt hk5)).trans hk5; obtain ⟨m3, m12, m0, m1, m2, j0, j1, j2⟩ := HST.out w4 HB6.out hk6; have hrow := HRW.out rfl w4 w.heap.size HB6.out (HX.out.ev w4 HB6.out); unfold ptrV at hrow; clear hmay hb4 d3 d12 d0 d1 d2 k0 k1 k2) | (refine hrow.mono ?_; rintro en w5 ⟨rv, rfl, hown, hb5⟩; have HB7 := Lib.hid (HB6.out.trans (hb5.mono HB6.out.size)); have hgw := hgrow w5 rv _ hown HB7.out; clear hrow hgrow hb5 hown) | (go_at_call 40; refine hgw.mono ?_; rintro en w6 ⟨rfl, hb6⟩; have HB8 := Lib.hid (HB7.out.trans (hb6.mono HB7.out.size)); clear hgw hb6))
            go_ret
            exact ⟨by rw [HR.out] <;> rfl, HW.out.trans (HB8.out.mono HW.out.size)⟩
        · have HR := Lib.hid (show RV = r by rw [TAIL.out, if_pos hr0])
          have he : (r != 0) = true := by rw [bne_iff_ne]; exact hr0
          clear hr0
          go_wp2_with (refine hmay.mono ?_; rintro en w4 ⟨rfl, hb4⟩; have HB6 := Lib.hid (hB5.trans (hb4.mono hB5.size)); have hk6 := (hb4.block b3 (heap_lt hk5)).trans hk5; obtain ⟨m3, m12, m0, m1, m2, j0, j1, j2⟩ := HST.out w4 HB6.out hk6; clear hmay hb4 d3 d12 d0 d1 d2 k0 k1 k2)
          go_ret
          exact ⟨by rw [HR.out] <;> rfl, HW.out.trans (HB6.out.mono HW.out.size)⟩
      · have he8 : (e.kind != 8) = true := by simp [h8]
        by_cases hd : e.day ≤ S.lock
        · have HR := Lib.hid (show RV = 71 by rw [TL.out, if_pos ⟨h8, hd⟩])
          clear h8
          go_wp2
          go_quiet (fail)
          go_wp2
          go_ret
          exact ⟨by rw [HR.out] <;> rfl, HW.out.trans ((below_drewN hB4 _).mono HW.out.size)⟩
        · have TAIL := Lib.hid (show RV = if r ≠ 0 then r else if (grownF S.turnover (rowsOf S e)).isSome then 0 else 11 by rw [TL.out, if_neg (by simp [hd])])
          have hd' : S.lock < e.day := by omega
          have hd2 : decide (e.day ≤ S.lock) = false := decide_eq_false hd
          clear h8 hd
          go_wp2
          go_quiet (fail)
          have hB5 := below_drewN hB4 nq
          have hk5 : (V1.drewN nq).heap[b3]? = _ := hk4
          clear d3 d12 d0 d1 d2 k0 k1 k2
          obtain ⟨d3, d12, d0, d1, d2, k0, k1, k2⟩ := HST.out _ hB5 hk5
          generalize V1.drewN nq = V2 at hB5 hk5 d3 d12 d0 d1 d2 k0 k1 k2 ⊢
          have hmay := HM.out V2 w.heap.size hB5 (HX.out.ev V2 hB5)
          unfold ptrV at hmay
          by_cases hr0 : r = 0
          · subst hr0
            cases hgr : grownF S.turnover (rowsOf S e) with
            | none =>
              have hgrow := HG.out
              rw [hgr] at hgrow
              unfold grownV ptrV at hgrow
              have HR := Lib.hid (show RV = 11 by rw [TAIL.out, if_neg (by simp), hgr]; rfl)
              clear hgr
              go_wp2_with (first | (refine hmay.mono ?_; rintro en w4 ⟨rfl, hb4⟩; have HB6 := Lib.hid (hB5.trans (hb4.mono hB5.size)); have hk6 := (hb4.block b3 (heap_lt hk5)).trans hk5; obtain ⟨m3, m12, m0, m1, m2, j0, j1, j2⟩ := HST.out w4 HB6.out hk6; have hrow := HRW.out rfl w4 w.heap.size HB6.out (HX.out.ev w4 HB6.out); unfold ptrV at hrow; clear hmay hb4 d3 d12 d0 d1 d2 k0 k1 k2) | (refine hrow.mono ?_; rintro en w5 ⟨rv, rfl, hown, hb5⟩; have HB7 := Lib.hid (HB6.out.trans (hb5.mono HB6.out.size)); have hgw := hgrow w5 rv _ hown HB7.out; clear hrow hgrow hb5 hown) | (go_at_call 40; refine hgw.mono ?_; rintro en w6 ⟨rfl, hb6⟩; have HB8 := Lib.hid (HB7.out.trans (hb6.mono HB7.out.size)); clear hgw hb6))
              go_ret
              exact ⟨by rw [HR.out] <;> rfl, HW.out.trans (HB8.out.mono HW.out.size)⟩
            | some t =>
              have hgrow := HG.out
              rw [hgr] at hgrow
              unfold grownV ptrV at hgrow
              have HR := Lib.hid (show RV = 0 by rw [TAIL.out, if_neg (by simp), hgr]; rfl)
              clear hgr
              go_wp2_with (first | (refine hmay.mono ?_; rintro en w4 ⟨rfl, hb4⟩; have HB6 := Lib.hid (hB5.trans (hb4.mono hB5.size)); have hk6 := (hb4.block b3 (heap_lt hk5)).trans hk5; obtain ⟨m3, m12, m0, m1, m2, j0, j1, j2⟩ := HST.out w4 HB6.out hk6; have hrow := HRW.out rfl w4 w.heap.size HB6.out (HX.out.ev w4 HB6.out); unfold ptrV at hrow; clear hmay hb4 d3 d12 d0 d1 d2 k0 k1 k2) | (refine hrow.mono ?_; rintro en w5 ⟨rv, rfl, hown, hb5⟩; have HB7 := Lib.hid (HB6.out.trans (hb5.mono HB6.out.size)); have hgw := hgrow w5 rv _ hown HB7.out; clear hrow hgrow hb5 hown) | (go_at_call 40; refine hgw.mono ?_; rintro en w6 ⟨rfl, hb6⟩; have HB8 := Lib.hid (HB7.out.trans (hb6.mono HB7.out.size)); clear hgw hb6))
              go_ret
              exact ⟨by rw [HR.out] <;> rfl, HW.out.trans (HB8.out.mono HW.out.size)⟩
          · have HR := Lib.hid (show RV = r by rw [TAIL.out, if_pos hr0])
            have he : (r != 0) = true := by rw [bne_iff_ne]; exact hr0
            clear hr0
            go_wp2_with (refine hmay.mono ?_; rintro en w4 ⟨rfl, hb4⟩; have HB6 := Lib.hid (hB5.trans (hb4.mono hB5.size)); have hk6 := (hb4.block b3 (heap_lt hk5)).trans hk5; obtain ⟨m3, m12, m0, m1, m2, j0, j1, j2⟩ := HST.out w4 HB6.out hk6; clear hmay hb4 d3 d12 d0 d1 d2 k0 k1 k2)
            go_ret
            exact ⟨by rw [HR.out] <;> rfl, HW.out.trans (HB6.out.mono HW.out.size)⟩
end Go.Proofs.YtgocoofcelggcaaGreatDoor
namespace Go.Proofs.YtgocoofcelggcaaGreatDoor
open Go.RowKit
set_option linter.unusedVariables false
set_option linter.unusedSimpArgs false

theorem linesFrom_amt (S : BookS) (e : EventV) (s : Int) (hs : s = 1 ∨ s = -1) : ∀ (l : List LineV) (i : Nat), (∀ x ∈ l, -maxA ≤ x.amount ∧ x.amount ≤ maxA) → ∀ r ∈ linesFrom S e s i l, -maxA ≤ r.amount ∧ r.amount ≤ maxA
  | [], _, _, r, hr => by simp [linesFrom] at hr
  | x :: l, i, h, r, hr => by
    unfold linesFrom at hr
    rcases List.mem_cons.1 hr with rfl | hr
    · have := h x (by simp)
      simp only [rowV]
      rcases hs with rfl | rfl <;> omega
    · exact linesFrom_amt S e s hs l (i + 1) (fun y hy => h y (by simp [hy])) r hr
theorem rows_facts {S : BookS} {e : EventV} (ht : OkT S) (hin : InEv e) (hf : fieldsB e = true) : (rowsOf S e).length ≤ 12 ∧ ∀ r ∈ rowsOf S e, -maxA ≤ r.amount ∧ r.amount ≤ maxA := by
  unfold rowsOf
  by_cases k3 : e.kind = 3
  · rw [if_pos k3]
    have hfit : fitB e.lines = true := by
      unfold fieldsB at hf
      simp [k3] at hf
      exact hf.2
    obtain ⟨h1, h2⟩ := fit_amt hfit hin
    rw [linesRows_len]
    exact ⟨h1, linesFrom_amt S e 1 (.inl rfl) _ 0 h2⟩
  rw [if_neg k3]
  by_cases k4 : e.kind = 4
  · rw [if_pos k4]
    cases hx : entryOf S e.ref with
    | none => simp
    | some x =>
      obtain ⟨i, hi, _, rfl⟩ := entry_ix hx
      have hfit := ht.ok.entFit _ (List.getElem_mem hi)
      have hl12 : S.entries[i].lines.length ≤ 12 := by
        unfold fitB at hfit
        simp at hfit
        exact hfit.2.2
      simp only [linesRows_len]
      exact ⟨hl12, linesFrom_amt S e (-1) (.inr rfl) _ 0 (ht.entAmt _ (List.getElem_mem hi))⟩
  rw [if_neg k4]
  have hA := hin.amount
  by_cases k5 : e.kind = 5
  · rw [if_pos k5]
    have hpos : 0 < e.amount := by unfold fieldsB at hf; simp [k5] at hf; omega
    refine ⟨by simp, fun r hr => ?_⟩
    unfold maxA at *
    rcases List.mem_cons.1 hr with rfl | hr
    · simp only [rowV]; omega
    · rcases List.mem_cons.1 hr with rfl | hr
      · simp only [rowV]; omega
      · simp at hr
  rw [if_neg k5]
  by_cases k6 : e.kind = 6
  · rw [if_pos k6]
    have hpos : 0 < e.amount := by unfold fieldsB at hf; simp [k6] at hf; omega
    refine ⟨by simp, fun r hr => ?_⟩
    unfold maxA at *
    rcases List.mem_cons.1 hr with rfl | hr
    · simp only [rowV]; omega
    · rcases List.mem_cons.1 hr with rfl | hr
      · simp only [rowV]; omega
      · simp at hr
  rw [if_neg k6]
  simp

section
variable {w : World} {F : Nat → Prop} {bb : Nat} {S : BookS} {e : EventV} {R : Nat → Prop}

theorem turn_range (ho : OkS S) : 0 ≤ S.turnover ∧ S.turnover ≤ maxA := ⟨by rw [← ho.turn]; exact sumAbs_nonneg _, ho.turnLe⟩

theorem grown_own (h : BookAt w F bb S) (ht : OkT S) (hin : InEv e) (hf : fieldsB e = true) (v : Value) (B : Nat) (hv : w.ownsRow B 39 9 v (rowsOf S e).length ((rowsOf S e).map encPost).flatten) :
    Calls Tryz.prog 40 #[ptrV bb, v] w fun en w' => en = .returned (grownV (grownF S.turnover (rowsOf S e))) ∧ Below w.heap.size w w' := by
  obtain ⟨ρ, p, h, _⟩ := h
  obtain ⟨h1, h2⟩ := rows_facts ht hin hf
  refine grown_any bb S.turnover w (heap_lt h.head) h.c13 (turn_range ht.ok) (fun _ => True) v (rowsOf S e) (by omega) ?_ h2
  refine RowAt.of_own (B := B) (e := 39) (by rw [List.length_map]; exact hv) (fun y hy => ?_) fun _ _ => trivial
  obtain ⟨z, _, rfl⟩ := List.mem_map.1 hy
  rfl

theorem check_any (h : BookAt w F bb S) (ht : OkT S) (hz : SmallEv e) (hin : InEv e) (A : Option Addr) (c : Nat) (hL : LinesAt w R (.slice A e.lines.length c) e.lines) :
    Calls Tryz.prog 21 #[ptrV bb, evV e (.slice A e.lines.length c)] w fun en w' => en = .returned (.int .i64 (checkE S e)) ∧ Below w.heap.size w w' := by
  have hb0 := bel1 w (.cells (evCs e (.slice A e.lines.length c)) 25)
  have hn0 := World.alloc_heap_new w (.cells (evCs e (.slice A e.lines.length c)) 25)
  have h0 := h.below hb0
  have hL0 := hL.below hb0
  have hchk := fun W (hb : Below (w.alloc (.cells (evCs e (.slice A e.lines.length c)) 25)).heap.size (w.alloc (.cells (evCs e (.slice A e.lines.length c)) 25)) W) => Check_ev R e A c W hz (hL0.below hb)
  have hgr := fun (hf : fieldsB e = true) W v B hv (hb : Below (w.alloc (.cells (evCs e (.slice A e.lines.length c)) 25)).heap.size (w.alloc (.cells (evCs e (.slice A e.lines.length c)) 25)) W) => grown_own (h0.below hb) ht hin hf v B hv
  have hact := fun (hf : fieldsB e = true) => act_any h0 ht hz hin hL0 hf
  obtain ⟨ρ, p, hp, _⟩ := h0
  have hX : ChkCtx (w.alloc (.cells (evCs e (.slice A e.lines.length c)) 25)) w.heap.size bb S p e (.slice A e.lines.length c) :=
    { ev := fun W hb => ⟨(hb.block _ (heap_lt hn0)).trans hn0⟩
      c0 := fun W hb => (hb.cell (p := ⟨bb, 0, none⟩) (heap_lt hp.head)).trans hp.c0
      c3 := fun W hb => (hb.cell (p := ⟨bb, 3, none⟩) (heap_lt hp.head)).trans hp.c3
      c12 := fun W hb => (hb.cell (p := ⟨bb, 12, none⟩) (heap_lt hp.head)).trans hp.c12
      known := hp.known.ex }
  unfold checkE
  by_cases hev : evB e = false
  · rw [if_pos hev]
    simp only [hev, Bool.false_eq_true, if_false] at hchk
    exact chk_bad hX hchk
  · have hev' : evB e = true := by simpa using hev
    rw [if_neg hev]
    simp only [hev', if_true] at hchk
    have hf : fieldsB e = true := by
      unfold evB at hev'
      simp only [Bool.and_eq_true] at hev'
      exact hev'.1.2
    obtain ⟨kd, fm, fr, fk, ha⟩ := hact hf
    by_cases hm : 1000 ≤ S.events
    · rw [if_pos hm]
      exact chk_many hX hchk ha hm
    · rw [if_neg hm, ha.keyed]
      exact chk_long hX hchk ha (by omega) (hgr hf) _ _ rfl rfl
end
end Go.Proofs.YtgocoofcelggcaaGreatDoor
namespace Go.Proofs.YtgocoofcelggcaaGreatDoor
open Go.RowKit
set_option linter.unusedVariables false
set_option linter.unusedSimpArgs false

/-- The balances' map with one row more. -/
theorem OwnI.snoc {rows : List PostV} {ps : List (ByteArray × Value)} (h : OwnI rows ps) (r : PostV) : OwnI (rows ++ [r]) (setP r.account (.int .i64 (ownF rows r.account + r.amount)) ps) := by
  intro k
  rw [getP_setP, hasRow_snoc, ownF_append, ownF_one]
  by_cases e : k = r.account
  · subst e
    simp
  · rw [if_neg e, h k]
    simp [Ne.symm e]
theorem OwnI.get {rows : List PostV} {ps : List (ByteArray × Value)} (h : OwnI rows ps) (k : ByteArray) : (getP k ps).getD (.int .i64 0) = .int .i64 (ownF rows k) := by
  rw [h k]
  cases hr : hasRow rows k with
  | true => simp
  | false => simp [own_none hr]
theorem LastI.snoc {rows : List PostV} {ps : List (ByteArray × Value)} (h : LastI rows ps) (r : PostV) : LastI (rows ++ [r]) (setP r.account (.int .i64 (max (lastF rows r.account) r.day)) ps) := by
  intro k
  rw [getP_setP, hasRow_snoc, lastF_snoc]
  by_cases e : k = r.account
  · subst e
    simp
  · rw [if_neg e, h k]
    simp [Ne.symm e]
theorem LastI.get {rows : List PostV} {ps : List (ByteArray × Value)} (h : LastI rows ps) (k : ByteArray) : (getP k ps).getD (.int .i64 0) = .int .i64 (lastF rows k) := by
  rw [h k]
  cases hr : hasRow rows k with
  | true => simp
  | false => simp [last_none hr]

/-- Counting k of the rows. -/
structure CountInv (W0 : World) (mO mL : Nat) (old rows : List PostV) (i : Value) (wr : World) (k : Nat) : Prop where
  le : k ≤ rows.length
  at_ : i = .int .i64 (k : Int)
  own : ∃ po, StrMap wr mO po ∧ OwnI (old ++ rows.take k) po
  last : ∃ pl, StrMap wr mL pl ∧ LastI (old ++ rows.take k) pl
  ch : Ch (fun k => k = mO ∨ k = mL) W0 wr

theorem CountInv.step {W0 : World} {mO mL : Nat} {old rows : List PostV} {i : Value} {wr w' : World} {k : Nat} {e : Ending} (h : CountInv W0 mO mL old rows i wr k) (hk : k < rows.length) {po pl : List (ByteArray × Value)}
    (hO : OwnI (old ++ rows.take k) po) (hL : LastI (old ++ rows.take k) pl)
    (hc : CountEnd po pl mO mL rows[k].account (ownF (old ++ rows.take k) rows[k].account + rows[k].amount) (max (lastF (old ++ rows.take k) rows[k].account) rows[k].day) wr e w') : CountInv W0 mO mL old rows (.int .i64 ((k + 1 : Nat) : Int)) w' (k + 1) := by
  have ht : old ++ rows.take (k + 1) = (old ++ rows.take k) ++ [rows[k]] := by rw [List.take_succ_eq_append_getElem hk, List.append_assoc]
  refine ⟨by omega, rfl, ⟨_, hc.own, ?_⟩, ⟨_, hc.last, ?_⟩, h.ch.trans' hc.ch⟩
  · rw [ht]; exact hO.snoc _
  · rw [ht]; exact hL.snoc _

/-- The books with rows appended and counted: from the books ahead of them. -/
theorem BookP.counted {w W0 W : World} {ρ : Nat → Nat} {bb : Nat} {S : BookS} {p : Pl} (h : BookP w ρ bb S p) (rows : List PostV) {v' : Value} (hg : ∀ k, v'.ownBlock = some k → ρ k = 5 ∨ w.heap.size ≤ k)
    (hs : w.heap.size ≤ W.heap.size) (hd : W.heap[bb]? = some (.cells ({ p with rV := v' }.cells S) 78 (0, 0)))
    (hk : ∀ k, k < w.heap.size → k ≠ bb → p.rV.ownBlock ≠ some k → k ≠ p.mO → k ≠ p.mL → W.heap[k]? = w.heap[k]?)
    (hown : W.ownsRow 0 39 9 v' (S.rows.length + rows.length) ((S.rows.map encPost).flatten ++ (rows.map encPost).flatten))
    {po pl : List (ByteArray × Value)} (hO : StrMap W p.mO po) (hIO : OwnI (S.rows ++ rows) po) (hL : StrMap W p.mL pl) (hIL : LastI (S.rows ++ rows) pl) :
    ∃ ρ', BookP W ρ' bb { S with rows := S.rows ++ rows } { p with rV := v' } ∧ ∀ k, ρ' k ≠ 0 → ρ k ≠ 0 ∨ (w.heap.size ≤ k ∧ k < W.heap.size ∧ v'.ownBlock = some k) := by
  have hkb := h.rows.role
  have hrb := h.rH
  have hro := h.own.role
  have hrl := h.last.role
  have hbl := heap_lt h.head
  obtain ⟨ρ', hρ⟩ : ∃ ρ', ρ' = putF ρ (fun k => v'.ownBlock = some k) 5 := ⟨_, rfl⟩
  have hqq : ∀ k, v'.ownBlock = some k → ρ' k = 5 := fun k e => by rw [hρ]; exact putF_eq ρ (G := fun k => v'.ownBlock = some k) 5 e
  have hno : ∀ k, k < w.heap.size → ρ k ≠ 5 → v'.ownBlock ≠ some k := fun k hl hr e => by rcases hg k e with h1 | h1; exact hr h1; omega
  have hold : ∀ k, k < w.heap.size → ρ k ≠ 5 → ρ' k = ρ k := fun k hl hr => by rw [hρ]; exact putF_ne ρ (G := fun k => v'.ownBlock = some k) 5 (hno k hl hr)
  have hany : ∀ k, ρ' k ≠ 0 → ρ k ≠ 0 ∨ (w.heap.size ≤ k ∧ k < W.heap.size ∧ v'.ownBlock = some k) := fun k hk => by
    by_cases e2 : v'.ownBlock = some k
    · rcases hg k e2 with h1 | h1
      · exact .inl (by omega)
      · exact .inr ⟨h1, (hown.lt k e2).2, e2⟩
    · rw [hρ, putF_ne ρ (G := fun k => v'.ownBlock = some k) 5 e2] at hk
      exact .inl hk
  have hlt : ∀ k, ρ' k ≠ 0 → k < W.heap.size := fun k hk => by
    rcases hany k hk with h1 | h1
    · have := h.lt k h1; omega
    · exact h1.2.1
  have hml : p.mO < w.heap.size := by obtain ⟨ps, h1, _⟩ := h.own.ex; exact h1.lt
  have hll : p.mL < w.heap.size := by obtain ⟨ps, h1, _⟩ := h.last.ex; exact h1.lt
  have hS : ∀ r, r ≠ 0 ∧ r ≠ 1 ∧ r ≠ 5 ∧ r ≠ 6 ∧ r ≠ 7 → SameR ρ ρ' w W r := fun r ⟨h0, h1, h5, h6, h7⟩ k hl he =>
    ⟨hk k hl (fun e => by rw [e] at he; omega) (fun e => by have := hkb k e; omega) (fun e => by rw [e] at he; omega) (fun e => by rw [e] at he; omega), by rw [hold k hl (by omega), he]⟩
  refine ⟨ρ', ?_, hany⟩
  exact {
    head := hd
    rH := by rw [hold bb hbl (by omega)]; exact h.rH
    chart := chart_keep h.chart (hS 2 (by decide)) hs
    keys := h.keys.keep (hS 3 (by decide))
    known := h.known.keep (hS 4 (by decide))
    rows := ⟨by
      show World.ownsRow _ _ _ _ _ (S.rows ++ rows).length ((S.rows ++ rows).map encPost).flatten
      rw [List.length_append, List.map_append, List.flatten_append]
      exact hown, hqq⟩
    own := ⟨⟨po, hO, hIO⟩, by show ρ' p.mO = 6; rw [hold _ hml (by omega)]; exact hro⟩
    last := ⟨⟨pl, hL, hIL⟩, by show ρ' p.mL = 7; rw [hold _ hll (by omega)]; exact hrl⟩
    entries := h.entries.keep (hS 8 (by decide))
    lines := lines_keep h.lines (hS 9 (by decide))
    entry := h.entry.keep (hS 10 (by decide))
    claims := h.claims.keep (hS 11 (by decide))
    order := h.order.keep (hS 12 (by decide))
    claim := claim_keep h.claim (hS 13 (by decide))
    inj := h.inj
    allots := h.allots.keep (hS 14 (by decide))
    lt := hlt }
end Go.Proofs.YtgocoofcelggcaaGreatDoor
namespace Go.Proofs.YtgocoofcelggcaaGreatDoor
open Go.RowKit
set_option linter.unusedVariables false
set_option linter.unusedSimpArgs false

structure Taken (S : BookS) (e : EventV) : Prop where
  ev : evB e = true
  fields : fieldsB e = true
  many : S.events < 1000
  fresh : keyedB e.kind = true → e.key ∉ S.keys
  refuse : refuseE S e = 0
  grown : S.turnover + sumAbs (rowsOf S e) ≤ maxA
theorem taken_of {S : BookS} {e : EventV} (h : checkE S e = 0) : Taken S e := by
  unfold checkE at h
  by_cases h1 : evB e = false
  · rw [if_pos h1] at h; omega
  rw [if_neg h1] at h
  by_cases h2 : 1000 ≤ S.events
  · rw [if_pos h2] at h; omega
  rw [if_neg h2] at h
  by_cases h3 : (keyedB e.kind && usedB S e.key) = true
  · rw [if_pos h3] at h; omega
  rw [if_neg h3] at h
  by_cases h4 : e.kind ≠ 8 ∧ e.day ≤ S.lock
  · rw [if_pos h4] at h; omega
  rw [if_neg h4] at h
  by_cases h5 : refuseE S e ≠ 0
  · rw [if_pos h5] at h; omega
  rw [if_neg h5] at h
  have h1' : evB e = true := by simpa using h1
  refine ⟨h1', ?_, by omega, fun hk hm => ?_, by omega, ?_⟩
  · unfold evB at h1'
    simp only [Bool.and_eq_true] at h1'
    exact h1'.1.2
  · apply h3
    rw [hk, Bool.true_and]
    exact List.any_eq_true.2 ⟨e.key, hm, by simp⟩
  · unfold grownF at h
    by_cases h6 : S.turnover + sumAbs (rowsOf S e) ≤ maxA
    · exact h6
    · rw [if_neg h6] at h
      simp at h

theorem fresh_entry {S : BookS} (ho : OkS S) {k : ByteArray} (h : k ∉ S.keys) : (S.entries.findIdx? fun y => decide (y.key = k)) = none := by
  rw [List.findIdx?_eq_none_iff]
  intro x hx
  have := ho.entIn x hx
  simp only [decide_eq_false_iff_not]
  intro e
  exact h (e ▸ this)
theorem fresh_claim {S : BookS} (ho : OkS S) {k : ByteArray} (h : k ∉ S.keys) : (S.claims.findIdx? fun y => decide (y.key = k)) = none := by
  rw [List.findIdx?_eq_none_iff]
  intro x hx
  have := ho.claIn x hx
  simp only [decide_eq_false_iff_not]
  intro e
  exact h (e ▸ this)

def KeepOk (bb : Nat) (S : BookS) (e : EventV) (lv : Value) (R : Nat → Prop) (fk : Nat) : Prop :=
  ∀ W F' eb, BookAt W F' bb (tookS S e) → EvAt W eb e lv → ¬ F' eb → LinesAt W R lv e.lines → (∀ k, R k → ¬ F' k) → Calls Tryz.prog fk #[ptrV bb, ptrV eb] W (BookPost F' bb (keepS (tookS S e) e) (.tuple #[]) W)

theorem allot_of {S : BookS} {e : EventV} (h : mayAllotE S e = 0) : ∃ p i, claimOf S e.ref = some p ∧ claimOf S e.ref2 = some i ∧ p.pay = true ∧ i.pay = false ∧ e.amount ≤ p.amount - p.used ∧ e.amount ≤ i.amount - i.used := by
  unfold mayAllotE at h
  cases hp : claimOf S e.ref with
  | none => rw [hp] at h; simp at h
  | some p =>
    cases hi : claimOf S e.ref2 with
    | none => rw [hp, hi] at h; simp at h
    | some i =>
      rw [hp, hi] at h
      simp only at h
      by_cases h1 : (p.pay && !i.pay) = true
      · rw [if_pos h1] at h
        by_cases h2 : p.account = i.account
        · rw [if_pos h2] at h
          by_cases h3 : e.day < p.day ∨ e.day < i.day
          · rw [if_pos h3] at h; omega
          rw [if_neg h3] at h
          by_cases h4 : p.amount - p.used < e.amount ∨ i.amount - i.used < e.amount
          · rw [if_pos h4] at h; omega
          simp only [Bool.and_eq_true, Bool.not_eq_true'] at h1
          exact ⟨p, i, rfl, rfl, h1.1, h1.2, by omega, by omega⟩
        · rw [if_neg h2] at h; omega
      · rw [if_neg h1] at h; omega

section
variable {bb : Nat} {S : BookS} {e : EventV} {lv : Value} {R : Nat → Prop}

theorem keep_1 (ht : OkT S) (hz : SmallEv e) (hin : InEv e) (hk3 : Taken S e) (hk : e.kind = 1) : KeepOk bb S e lv R 58 := by
  have ho := ht.ok
  intro W F' eb hb hE hne hL hR
  have hks : ∀ T : BookS, keepS T e = keepS T e := fun _ => rfl
  unfold keepS
  simp only [hk, if_true, if_false, show ((1 : Int) = 1) = True by simp]
  exact open_any hb (show Valid S.chart from ho.chart) hE (by have := hz.account; omega)

theorem keep_2 (ht : OkT S) (hz : SmallEv e) (hin : InEv e) (hk3 : Taken S e) (hk : e.kind = 2) : KeepOk bb S e lv R 60 := by
  have ho := ht.ok
  intro W F' eb hb hE hne hL hR
  have hks : ∀ T : BookS, keepS T e = keepS T e := fun _ => rfl
  unfold keepS
  simp only [hk, if_true, if_false, show ((2 : Int) = 1) = False by simp, show ((2 : Int) = 2) = True by simp]
  exact closes_any hb (show Valid S.chart from ho.chart) hE

theorem keep_3 (ht : OkT S) (hz : SmallEv e) (hin : InEv e) (hk3 : Taken S e) (hk : e.kind = 3) : KeepOk bb S e lv R 63 := by
  have ho := ht.ok
  intro W F' eb hb hE hne hL hR
  have hks : ∀ T : BookS, keepS T e = keepS T e := fun _ => rfl
  unfold keepS
  simp only [hk, if_true, if_false, show ((3 : Int) = 1) = False by simp, show ((3 : Int) = 2) = False by simp, show ((3 : Int) = 3) = True by simp]
  have hfit : fitB e.lines = true := by
    have hf := hk3.fields
    unfold fieldsB at hf
    simp [hk] at hf
    exact hf.2
  have hl12 := (fit_amt hfit hin).1
  have hfr := hk3.fresh (by rw [hk]; rfl)
  exact post_any hb hE hne hL hl12 hR (show S.entries.length ≤ 1000 by have := ho.entLe; have := ho.ev1; omega) (show (S.entries.findIdx? fun y => decide (y.key = e.key)) = none from fresh_entry ho hfr)

theorem keep_4 (ht : OkT S) (hz : SmallEv e) (hin : InEv e) (hk3 : Taken S e) (hk : e.kind = 4) : KeepOk bb S e lv R 66 := by
  have ho := ht.ok
  intro W F' eb hb hE hne hL hR
  have hks : ∀ T : BookS, keepS T e = keepS T e := fun _ => rfl
  unfold keepS
  simp only [hk, if_true, if_false, show ((4 : Int) = 1) = False by simp, show ((4 : Int) = 2) = False by simp, show ((4 : Int) = 3) = False by simp, show ((4 : Int) = 4) = True by simp]
  have hr := hk3.refuse
  have href : refuseE S e = mayVoidE S e := by unfold refuseE; simp [hk]
  rw [href] at hr
  cases hx : entryOf S e.ref with
  | none => unfold mayVoidE at hr; rw [hx] at hr; simp at hr
  | some x =>
    obtain ⟨i, hi, hix, _⟩ := entry_ix hx
    exact void_any hb hE i (show i < S.entries.length from hi) hix (show S.entries.length ≤ 1000 by have := ho.entLe; have := ho.ev1; omega)

theorem keep_5 (ht : OkT S) (hz : SmallEv e) (hin : InEv e) (hk3 : Taken S e) (hk : e.kind = 5) : KeepOk bb S e lv R 69 := by
  have ho := ht.ok
  intro W F' eb hb hE hne hL hR
  have hks : ∀ T : BookS, keepS T e = keepS T e := fun _ => rfl
  unfold keepS
  simp only [hk, if_true, if_false, show ((5 : Int) = 1) = False by simp, show ((5 : Int) = 2) = False by simp, show ((5 : Int) = 3) = False by simp, show ((5 : Int) = 4) = False by simp, show ((5 : Int) = 5) = True by simp]
  have hfr := hk3.fresh (by rw [hk]; rfl)
  have hc := claim_any hb hE (show (S.claims.findIdx? fun y => decide (y.key = e.key)) = none from fresh_claim ho hfr) (show S.claims.length ≤ 1000 by have := ho.claLe; have := ho.ev1; omega)
  simp only [hk] at hc
  exact hc

theorem keep_6 (ht : OkT S) (hz : SmallEv e) (hin : InEv e) (hk3 : Taken S e) (hk : e.kind = 6) : KeepOk bb S e lv R 69 := by
  have ho := ht.ok
  intro W F' eb hb hE hne hL hR
  have hks : ∀ T : BookS, keepS T e = keepS T e := fun _ => rfl
  unfold keepS
  simp only [hk, if_true, if_false, show ((6 : Int) = 1) = False by simp, show ((6 : Int) = 2) = False by simp, show ((6 : Int) = 3) = False by simp, show ((6 : Int) = 4) = False by simp, show ((6 : Int) = 5) = False by simp, show ((6 : Int) = 6) = True by simp]
  have hfr := hk3.fresh (by rw [hk]; rfl)
  have hc := claim_any hb hE (show (S.claims.findIdx? fun y => decide (y.key = e.key)) = none from fresh_claim ho hfr) (show S.claims.length ≤ 1000 by have := ho.claLe; have := ho.ev1; omega)
  simp only [hk] at hc
  exact hc

theorem keep_7 (ht : OkT S) (hz : SmallEv e) (hin : InEv e) (hk3 : Taken S e) (hk : e.kind = 7) : KeepOk bb S e lv R 73 := by
  have ho := ht.ok
  intro W F' eb hb hE hne hL hR
  have hks : ∀ T : BookS, keepS T e = keepS T e := fun _ => rfl
  unfold keepS
  simp only [hk, if_true, if_false, show ((7 : Int) = 1) = False by simp, show ((7 : Int) = 2) = False by simp, show ((7 : Int) = 3) = False by simp, show ((7 : Int) = 4) = False by simp, show ((7 : Int) = 5) = False by simp, show ((7 : Int) = 6) = False by simp, show ((7 : Int) = 7) = True by simp]
  have hr := hk3.refuse
  have href : refuseE S e = mayAllotE S e := by unfold refuseE; simp [hk]
  rw [href] at hr
  obtain ⟨p, q, hp, hq, h1, h2, h3, h4⟩ := allot_of hr
  obtain ⟨i, hi, hix, rfl⟩ := claim_ix hp
  obtain ⟨j, hj, hjx, rfl⟩ := claim_ix hq
  have hij : i ≠ j := fun e' => by subst e'; rw [h1] at h2; cases h2
  have ai := ho.claAmt _ (List.getElem_mem hi)
  have aj := ho.claAmt _ (List.getElem_mem hj)
  have hpos : 0 < e.amount := by have hf := hk3.fields; unfold fieldsB at hf; simp [hk] at hf; omega
  exact allot_any hb hE hne (show S.allots.length ≤ 1000 by have := ho.allLe; have := ho.ev1; omega) i j hi hj hij hix hjx (show 0 ≤ S.claims[i].used ∧ S.claims[i].used + e.amount ≤ maxA by omega) (show 0 ≤ S.claims[j].used ∧ S.claims[j].used + e.amount ≤ maxA by omega) (by omega)

theorem keep_8 (ht : OkT S) (hz : SmallEv e) (hin : InEv e) (hk3 : Taken S e) (hk : e.kind = 8) : KeepOk bb S e lv R 75 := by
  have ho := ht.ok
  intro W F' eb hb hE hne hL hR
  have hks : ∀ T : BookS, keepS T e = keepS T e := fun _ => rfl
  unfold keepS
  simp only [hk, if_true, if_false, show ((8 : Int) = 1) = False by simp, show ((8 : Int) = 2) = False by simp, show ((8 : Int) = 3) = False by simp, show ((8 : Int) = 4) = False by simp, show ((8 : Int) = 5) = False by simp, show ((8 : Int) = 6) = False by simp, show ((8 : Int) = 7) = False by simp]
  exact locks_any hb hE
end
end Go.Proofs.YtgocoofcelggcaaGreatDoor
