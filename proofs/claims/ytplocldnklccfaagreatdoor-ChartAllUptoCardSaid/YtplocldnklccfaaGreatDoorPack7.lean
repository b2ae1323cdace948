/- daybooklaw06: one call on a chart of the program and on one of the document. Printed by gen_does.py; daybookkeep: pages of lists that are kept: how one lies in memory; daybookkeep: the pages of a book, in memory; daybookkeep: the marks' texts; daybookkeep: a list of texts is written over. Printed by gen_keepfill.py; daybookkeep: a list of texts is appended to. Printed by gen_keepfill.py. -/
import Derived.Test.YtplocldnklccfaaGreatDoorPack6
import Derived.Test.YtplocldnklccfaaGreatDoorPack4
import Derived.Test.YtplocldnklccfaaGreatDoorPack5
import Derived.Test.YtplocldnklccfaaGreatDoorShelf
import Derived.Lib.LaidTab
import Derived.Lib.ItoaLen
namespace Go.Proofs.YtplocldnklccfaaGreatDoor
theorem qa7 {T : Type} (l : List T) (i : Nat) (a : T) : l.toArray.setIfInBounds i a = (l.set i a).toArray := List.setIfInBounds_toArray l i a
theorem qb7 {T : Type} {x : T} {xs : List T} {a : T} : (x :: xs).set 0 a = a :: xs := List.set_cons_zero
theorem qc7 {T : Type} {x : T} {xs : List T} {i : Nat} {a : T} : (x :: xs).set (i + 1) a = x :: xs.set i a := List.set_cons_succ
theorem qd7 {T : Type} {xs : List T} {i : Nat} (h : i < xs.toArray.size) : xs.toArray[i] = xs[i]'(by simpa using h) := List.getElem_toArray h
theorem qe7 {T : Type} (a : T) (ys : List T) (i : Nat) (h : i + 1 < (a :: ys).length) : (a :: ys)[i + 1] = ys[i]'(by simpa using h) := List.getElem_cons_succ a ys i h
theorem qf7 {T : Type} (a : T) (ys : List T) (h : 0 < (a :: ys).length) : (a :: ys)[0] = a := List.getElem_cons_zero a ys h
open Go.RowKit
set_option linter.unusedVariables false
set_option linter.unusedSimpArgs false

/-- A chart of the program and one of the document, of the same accounts. -/
structure SideAt (w : World) (cb rb : Nat) (F R : Nat → Prop) (L : List Acct) : Prop where
  c : ChartAt w F cb L
  r : RefAt w R rb L
  v : Valid L
  dis : ∀ q, F q → ¬ R q
  lt : ∀ q, F q ∨ R q → q < w.heap.size
theorem SideAt.below {w w' : World} {cb rb : Nat} {F R : Nat → Prop} {L : List Acct} (h : SideAt w cb rb F R L) (hb : Below w.heap.size w w') : SideAt w' cb rb F R L :=
  ⟨h.c.below hb, h.r.below hb, h.v, h.dis, fun q hq => Nat.lt_of_lt_of_le (h.lt q hq) hb.size⟩
theorem SideAt.ch {w w' : World} {cb rb : Nat} {F R G : Nat → Prop} {L : List Acct} (h : SideAt w cb rb F R L) (hc : Ch G w w') (hG : ∀ q, F q ∨ R q → ¬ G q) : SideAt w' cb rb F R L :=
  ⟨h.c.ch hc fun q hq => hG q (.inl hq), h.r.ch hc fun q hq => hG q (.inr hq), h.v, h.dis, fun q hq => Nat.lt_of_lt_of_le (h.lt q hq) hc.size⟩
/-- What a call leaves of both. -/
def SideGo (w w' : World) (cb rb : Nat) (F R : Nat → Prop) (L : List Acct) : Prop := ∃ F' R', SideAt w' cb rb F' R' L ∧ Ch (fun q => F q ∨ R q) w w' ∧ ∀ q, F' q ∨ R' q → (F q ∨ R q) ∨ (w.heap.size ≤ q ∧ q < w'.heap.size)
theorem side_step {w W1 W2 W3 : World} {cb rb : Nat} {F R : Nat → Prop} {L L' : List Acct} {v u : Value} {e e' : Ending} (h : SideAt w cb rb F R L) (hb : Below w.heap.size w W1) (hm : MutPost F cb L' v W1 e W2) (hr : RefPost R rb L' u W2 e' W3) (hv : Valid L') : SideGo w W3 cb rb F R L' := by
  obtain ⟨_, F', hc2, hch2, hF2⟩ := hm
  obtain ⟨_, R', hr3, hch3, hR3⟩ := hr
  have s1 := hb.size
  have s2 := hch2.size
  have s3 := hch3.size
  have hF' : ∀ q, F' q → ¬ R q := fun q hq hR => by
    rcases hF2 q hq with h1 | h1
    · exact h.dis q h1 hR
    · have := h.lt q (.inr hR); omega
  refine ⟨F', R', ⟨hc2.ch hch3 hF', hr3, hv, fun q hq hq' => ?_, fun q hq => ?_⟩, ?_, fun q hq => ?_⟩
  · rcases hR3 q hq' with h1 | h1
    · exact hF' q hq h1
    · rcases hF2 q hq with h2 | h2
      · have := h.lt q (.inl h2); omega
      · omega
  · rcases hq with hq | hq
    · rcases hF2 q hq with h2 | h2
      · have := h.lt q (.inl h2); omega
      · omega
    · rcases hR3 q hq with h1 | h1
      · have := h.lt q (.inr h1); omega
      · omega
  · exact (((Ch.of_below (F := fun q => F q ∨ R q) hb).trans hch2 fun q hq => .inl (.inl hq)).trans hch3 fun q hq => .inl (.inr hq))
  · rcases hq with hq | hq
    · rcases hF2 q hq with h2 | h2
      · exact .inl (.inl h2)
      · exact .inr (by omega)
    · rcases hR3 q hq with h1 | h1
      · exact .inl (.inr h1)
      · exact .inr (by omega)
theorem SideGo.stay {w w' : World} {cb rb : Nat} {F R : Nat → Prop} {L : List Acct} (h : SideAt w cb rb F R L) (hb : Below w.heap.size w w') : SideGo w w' cb rb F R L := ⟨F, R, h.below hb, Ch.of_below hb, fun q hq => .inl hq⟩
/-- An act's cells. -/
def actV2 (who : Int) (a : ActV) (ask : ByteArray) : Value := .agg #[.int .i64 who, .int .i64 a.kind, .int .i64 a.typ, .int .i64 a.day, .string a.name, .string ask]

set_option maxRecDepth 100000 in
set_option maxHeartbeats 8000000 in
theorem does_any {w : World} {cb rb : Nat} {F R : Nat → Prop} {L : List Acct} (h : SideAt w cb rb F R L) (who : Int) (a : ActV) (ask : ByteArray) (hsz : a.name.size ≤ 1048576) :
    Calls Tryz.prog 76 #[.agg #[.pointer (some ⟨cb, 0, none⟩), .pointer (some ⟨rb, 0, none⟩)], actV2 who a ask] w fun e w' => e = .returned (.bool true) ∧ SideGo w w' cb rb F R (actL L a) := by
  unfold actV2 actL
  have H := Lib.hid h
  obtain ⟨wa, hwa⟩ : ∃ wa, wa = (w.alloc (.cells #[.pointer (some ⟨cb, 0, none⟩), .pointer (some ⟨rb, 0, none⟩)] 75)).alloc (.cells #[.int .i64 who, .int .i64 a.kind, .int .i64 a.typ, .int .i64 a.day, .string a.name, .string ask] 79) := ⟨_, rfl⟩
  have hba : Below w.heap.size w wa := by rw [hwa]; exact (bel1 w _).alloc (by simp) _
  have hsa : wa.heap.size = w.heap.size + 2 := by rw [hwa]; simp
  have h0 : wa.heap[w.heap.size]? = some (.cells #[.pointer (some ⟨cb, 0, none⟩), .pointer (some ⟨rb, 0, none⟩)] 75 (0, 0)) := by
    rw [hwa, Below.heap_alloc _ _ _ (by simp)]; exact World.alloc_heap_new w _
  have h1 : wa.heap[w.heap.size + 1]? = some (.cells #[.int .i64 who, .int .i64 a.kind, .int .i64 a.typ, .int .i64 a.day, .string a.name, .string ask] 79 (0, 0)) := by
    rw [hwa]
    have := World.alloc_heap_new (w.alloc (.cells #[.pointer (some ⟨cb, 0, none⟩), .pointer (some ⟨rb, 0, none⟩)] 75)) (.cells #[.int .i64 who, .int .i64 a.kind, .int .i64 a.typ, .int .i64 a.day, .string a.name, .string ask] 79)
    simpa using this
  have HS := Lib.hid fun (W : World) (hb : ∀ q, w.heap.size ≤ q → q < w.heap.size + 2 → W.heap[q]? = wa.heap[q]?) => (show W.cell? ⟨w.heap.size, 0, none⟩ = some (.pointer (some ⟨cb, 0, none⟩)) ∧ W.cell? ⟨w.heap.size, 1, none⟩ = some (.pointer (some ⟨rb, 0, none⟩)) ∧ W.cell? ⟨w.heap.size + 1, 2, none⟩ = some (.int .i64 a.typ) ∧ W.cell? ⟨w.heap.size + 1, 3, none⟩ = some (.int .i64 a.day) ∧ W.cell? ⟨w.heap.size + 1, 4, none⟩ = some (.string a.name) from by
    have e0 := (hb _ (Nat.le_refl _) (by omega)).trans h0
    have e1 := (hb _ (Nat.le_succ _) (by omega)).trans h1
    exact ⟨by rw [cell_of_blk e0]; rfl, by rw [cell_of_blk e0]; rfl, by rw [cell_of_blk e1]; rfl, by rw [cell_of_blk e1]; rfl, by rw [cell_of_blk e1]; rfl⟩)
  have k1 : wa.cell? ⟨w.heap.size + 1, 1, none⟩ = some (.int .i64 a.kind) := by rw [cell_of_blk h1]; rfl
  have HS2 : Hid (∀ (W : World) {L' : List Acct} {v : Value} {e : Ending}, MutPost F cb L' v wa.drew e W → W.cell? ⟨w.heap.size, 0, none⟩ = some (.pointer (some ⟨cb, 0, none⟩)) ∧ W.cell? ⟨w.heap.size, 1, none⟩ = some (.pointer (some ⟨rb, 0, none⟩)) ∧ W.cell? ⟨w.heap.size + 1, 2, none⟩ = some (.int .i64 a.typ) ∧ W.cell? ⟨w.heap.size + 1, 3, none⟩ = some (.int .i64 a.day) ∧ W.cell? ⟨w.heap.size + 1, 4, none⟩ = some (.string a.name)) := Lib.hid fun W {L' v e} hm => HS.out W fun q h2 h3 => by
    obtain ⟨_, F', _, hc, _⟩ := hm
    exact hc.block q (by show q < wa.heap.size; omega) fun hf => by have := H.out.lt q (.inl hf); omega
  have HS3 : Hid (∀ (W2 W : World) {L' : List Acct} {v u : Value} {e e' : Ending}, MutPost F cb L' v wa.drew e W2 → RefPost R rb L' u W2 e' W → W.cell? ⟨w.heap.size, 0, none⟩ = some (.pointer (some ⟨cb, 0, none⟩)) ∧ W.cell? ⟨w.heap.size, 1, none⟩ = some (.pointer (some ⟨rb, 0, none⟩)) ∧ W.cell? ⟨w.heap.size + 1, 2, none⟩ = some (.int .i64 a.typ) ∧ W.cell? ⟨w.heap.size + 1, 3, none⟩ = some (.int .i64 a.day) ∧ W.cell? ⟨w.heap.size + 1, 4, none⟩ = some (.string a.name)) := Lib.hid fun W2 W {L' v u e e'} hm hr => HS.out W fun q h2 h3 => by
    obtain ⟨_, F', _, hc, _⟩ := hm
    obtain ⟨_, R', _, hc', _⟩ := hr
    have s2 := hc.size
    have sd : wa.drew.heap.size = wa.heap.size := rfl
    exact (hc'.block q (by omega) fun hf => by have := H.out.lt q (.inr hf); omega).trans (hc.block q (by show q < wa.heap.size; omega) fun hf => by have := H.out.lt q (.inl hf); omega)
  have HOP := Lib.hid fun (W : World) (hb : Below w.heap.size w W) => Open_any (H.out.c.below hb) H.out.v a.name a.typ a.day (by omega)
  have HCL := Lib.hid fun (W : World) (hb : Below w.heap.size w W) => Close_any (H.out.c.below hb) H.out.v a.name
  have HMA := Lib.hid fun (W : World) (hb : Below w.heap.size w W) => May_any (H.out.c.below hb) a.name a.day
  have HRMA := Lib.hid fun (W : World) (hb : Below w.heap.size w W) => refMay_any (H.out.r.below hb) a.name a.day
  have HRM : Hid (∀ (W1 W2 : World) {L' : List Acct} {v : Value} {e : Ending}, Below w.heap.size w W1 → MutPost F cb L' v W1 e W2 → RefAt W2 R rb L) := Lib.hid fun W1 W2 {L' v e} hb hm => by
    obtain ⟨_, F', _, hc, _⟩ := hm
    exact (H.out.r.below hb).ch hc fun q hR hF => H.out.dis q hF hR
  have HROP := Lib.hid fun (W1 W2 : World) (hb : Below w.heap.size w W1) (hm : MutPost F cb (openL L a.name a.typ a.day) (.int .i64 (openE L a.name a.typ a.day)) W1 (.returned (.int .i64 (openE L a.name a.typ a.day))) W2) => refOpen_any (HRM.out W1 W2 hb hm) H.out.v a.name a.typ a.day hsz
  have HRCL := Lib.hid fun (W1 W2 : World) (hb : Below w.heap.size w W1) (hm : MutPost F cb (closeL L a.name) (.int .i64 (closeE L a.name)) W1 (.returned (.int .i64 (closeE L a.name))) W2) => refClose_any (HRM.out W1 W2 hb hm) H.out.v a.name
  clear h h0 h1
  by_cases kk1 : a.kind = 1
  · have hq1 : (a.kind == 1) = true := by rw [kk1]; rfl
    rw [if_pos kk1]
    clear kk1
    go_enter Tryz.func76, Tryz.ntmps76
    go_wp2
    rw [← hwa]
    clear hwa k1
    have hHeld := HS.out wa.drew fun q _ _ => rfl
    refine wp_region_n (n := 20) (S := fun w' => w'.cell? ⟨w.heap.size, 0, none⟩ = some (.pointer (some ⟨cb, 0, none⟩)) ∧ w'.cell? ⟨w.heap.size, 1, none⟩ = some (.pointer (some ⟨rb, 0, none⟩)) ∧ w'.cell? ⟨w.heap.size + 1, 2, none⟩ = some (.int .i64 a.typ) ∧ w'.cell? ⟨w.heap.size + 1, 3, none⟩ = some (.int .i64 a.day) ∧ w'.cell? ⟨w.heap.size + 1, 4, none⟩ = some (.string a.name)) (by kernel_rfl) ?_
    refine wpAnyN_take (i := 0) (v := ?_) rfl (by kernel_rfl) (by kernel_rfl) (by kernel_rfl) (by kernel_rfl) (fun _ _ _ h => h) (Or.inl ⟨by kernel_rfl, ?y1⟩) hHeld ?_
    case y1 =>
      intro w0 hSw
      (try dsimp only at hSw)
      go_simp
      try with_reducible rfl
    try simp only [Act.put, qa7, qb7, qc7, qd7, qe7, qf7]
    refine wpAnyN_take (i := 1) (v := ?_) rfl (by kernel_rfl) (by kernel_rfl) (by kernel_rfl) (by kernel_rfl) (fun _ _ _ h => h) (Or.inl ⟨by kernel_rfl, ?y2⟩) hHeld ?_
    case y2 =>
      intro w0 hSw
      (try dsimp only at hSw)
      go_simp
      try with_reducible rfl
    try simp only [Act.put, qa7, qb7, qc7, qd7, qe7, qf7]
    refine wpAnyN_take (i := 2) (v := ?_) rfl (by kernel_rfl) (by kernel_rfl) (by kernel_rfl) (by kernel_rfl) (fun _ _ _ h => h) (Or.inl ⟨by kernel_rfl, ?y3⟩) hHeld ?_
    case y3 =>
      intro w0 hSw
      (try dsimp only at hSw)
      go_simp
      try with_reducible rfl
    try simp only [Act.put, qa7, qb7, qc7, qd7, qe7, qf7]
    refine wpAnyN_take (i := 3) (v := ?_) rfl (by kernel_rfl) (by kernel_rfl) (by kernel_rfl) (by kernel_rfl) (fun _ _ _ h => h) (Or.inl ⟨by kernel_rfl, ?y4⟩) hHeld ?_
    case y4 =>
      intro w0 hSw
      (try dsimp only at hSw)
      go_simp
      try with_reducible rfl
    try simp only [Act.put, qa7, qb7, qc7, qd7, qe7, qf7]
    refine wpAnyN_take (i := 4) (v := ?_) rfl (by kernel_rfl) (by kernel_rfl) (by kernel_rfl) (by kernel_rfl) (fun _ _ _ h => h) (Or.inl ⟨by kernel_rfl, ?y5⟩) hHeld ?_
    case y5 =>
      intro w0 hSw
      (try dsimp only at hSw)
      go_simp
      try with_reducible rfl
    try simp only [Act.put, qa7, qb7, qc7, qd7, qe7, qf7]
    refine wpAnyN_take (i := 5) (v := ?_) rfl (by kernel_rfl) (by kernel_rfl) (by kernel_rfl) (by kernel_rfl) (fun _ _ _ h => h) (Or.inl ⟨by kernel_rfl, ?y6⟩) hHeld ?_
    case y6 =>
      intro w0 hSw
      (try dsimp only at hSw)
      go_simp
      try with_reducible rfl
    try simp only [Act.put, qa7, qb7, qc7, qd7, qe7, qf7]
    refine wpAnyN_take (i := 6) (v := ?_) rfl (by kernel_rfl) (by kernel_rfl) (by kernel_rfl) (by kernel_rfl) (fun _ _ _ h => h) (Or.inl ⟨by kernel_rfl, ?y7⟩) hHeld ?_
    case y7 =>
      intro w0 hSw
      (try dsimp only at hSw)
      go_simp
      try with_reducible rfl
    try simp only [Act.put, qa7, qb7, qc7, qd7, qe7, qf7]
    refine wpAnyN_take (i := 7) (v := ?_) rfl (by kernel_rfl) (by kernel_rfl) (by kernel_rfl) (by kernel_rfl) (fun _ _ _ h => h) (Or.inl ⟨by kernel_rfl, ?y8⟩) hHeld ?_
    case y8 =>
      intro w0 hSw
      (try dsimp only at hSw)
      go_simp
      try with_reducible rfl
    try simp only [Act.put, qa7, qb7, qc7, qd7, qe7, qf7]
    refine wpAnyN_take (i := 9) (v := ?_) rfl (by kernel_rfl) (by kernel_rfl) (by kernel_rfl) (by kernel_rfl) (fun _ _ _ h => h) (Or.inl ⟨by kernel_rfl, ?y9⟩) hHeld ?_
    case y9 =>
      intro w0 hSw
      (try dsimp only at hSw)
      go_simp
      try with_reducible rfl
    try simp only [Act.put, qa7, qb7, qc7, qd7, qe7, qf7]
    refine wpAnyN_take (i := 10) (v := ?_) rfl (by kernel_rfl) (by kernel_rfl) (by kernel_rfl) (by kernel_rfl) (fun _ _ _ h => h) (Or.inl ⟨by kernel_rfl, ?y10⟩) hHeld ?_
    case y10 =>
      intro w0 hSw
      (try dsimp only at hSw)
      go_simp
      try with_reducible rfl
    try simp only [Act.put, qa7, qb7, qc7, qd7, qe7, qf7]
    refine wpAnyN_take (i := 11) (v := ?_) rfl (by kernel_rfl) (by kernel_rfl) (by kernel_rfl) (by kernel_rfl) (fun _ _ _ h => h) (Or.inl ⟨by kernel_rfl, ?y11⟩) hHeld ?_
    case y11 =>
      intro w0 hSw
      (try dsimp only at hSw)
      go_simp
      try with_reducible rfl
    try simp only [Act.put, qa7, qb7, qc7, qd7, qe7, qf7]
    refine wpAnyN_take (i := 12) (v := ?_) rfl (by kernel_rfl) (by kernel_rfl) (by kernel_rfl) (by kernel_rfl) (fun _ _ _ h => h) (Or.inl ⟨by kernel_rfl, ?y12⟩) hHeld ?_
    case y12 =>
      intro w0 hSw
      (try dsimp only at hSw)
      go_simp
      try with_reducible rfl
    try simp only [Act.put, qa7, qb7, qc7, qd7, qe7, qf7]
    refine wpAnyN_take (i := 13) (v := ?_) rfl (by kernel_rfl) (by kernel_rfl) (by kernel_rfl) (by kernel_rfl) (fun _ _ _ h => h) (Or.inl ⟨by kernel_rfl, ?y13⟩) hHeld ?_
    case y13 =>
      intro w0 hSw
      (try dsimp only at hSw)
      go_simp
      try with_reducible rfl
    try simp only [Act.put, qa7, qb7, qc7, qd7, qe7, qf7]
    refine wpAnyN_take (i := 14) (v := ?_) rfl (by kernel_rfl) (by kernel_rfl) (by kernel_rfl) (by kernel_rfl) (fun _ _ _ h => h) (Or.inl ⟨by kernel_rfl, ?y14⟩) hHeld ?_
    case y14 =>
      intro w0 hSw
      (try dsimp only at hSw)
      go_simp
      try with_reducible rfl
    try simp only [Act.put, qa7, qb7, qc7, qd7, qe7, qf7]
    refine wpAnyN_take (i := 15) (v := ?_) rfl (by kernel_rfl) (by kernel_rfl) (by kernel_rfl) (by kernel_rfl) (fun _ _ _ h => h) (Or.inl ⟨by kernel_rfl, ?y15⟩) hHeld ?_
    case y15 =>
      intro w0 hSw
      (try dsimp only at hSw)
      go_simp
      try with_reducible rfl
    try simp only [Act.put, qa7, qb7, qc7, qd7, qe7, qf7]
    refine wpAnyN_take (i := 16) (v := ?_) rfl (by kernel_rfl) (by kernel_rfl) (by kernel_rfl) (by kernel_rfl) (fun _ _ _ h => h) (Or.inl ⟨by kernel_rfl, ?y16⟩) hHeld ?_
    case y16 =>
      intro w0 hSw
      (try dsimp only at hSw)
      go_simp
      try with_reducible rfl
    try simp only [Act.put, qa7, qb7, qc7, qd7, qe7, qf7]
    refine wpAnyN_step (i := 8) (by kernel_rfl) rfl (fun K hK => ?_)
    go_simp
    go_at_call 150
    refine (HOP.out _ hba.drew).mono ?_
    rintro en w2 hm
    have he := hm.ret
    subst he
    have HM := Lib.hid hm
    clear hm
    have hHeld := HS2.out w2 HM.out
    go_wp2_with fail
    refine hK.out _ _ (fun _ => hHeld) ?_
    clear hK K
    try simp only [Act.put, qa7, qb7, qc7, qd7, qe7, qf7]
    refine wpAnyN_step (i := 17) (by kernel_rfl) rfl (fun K hK => ?_)
    go_simp
    go_at_call 151
    refine (HROP.out wa.drew w2 hba.drew HM.out).mono ?_
    rintro en w3 hr
    have he := hr.ret
    subst he
    have HR := Lib.hid hr
    clear hr
    have hHeld := HS3.out w2 w3 HM.out HR.out
    go_wp2_with fail
    refine hK.out _ _ (fun _ => hHeld) ?_
    clear hK K
    try simp only [Act.put, qa7, qb7, qc7, qd7, qe7, qf7]
    refine wpAnyN_take (i := 18) (v := ?_) rfl (by kernel_rfl) (by kernel_rfl) (by kernel_rfl) (by kernel_rfl) (fun _ _ _ h => h) (Or.inl ⟨by kernel_rfl, ?y17⟩) hHeld ?_
    case y17 =>
      intro w0 hSw
      (try dsimp only at hSw)
      go_simp
      try with_reducible rfl
    try simp only [Act.put, qa7, qb7, qc7, qd7, qe7, qf7]
    refine wpAnyN_take (i := 19) (v := ?_) rfl (by kernel_rfl) (by kernel_rfl) (by kernel_rfl) (by kernel_rfl) (fun _ _ _ h => h) (Or.inl ⟨by kernel_rfl, ?y18⟩) hHeld ?_
    case y18 =>
      intro w0 hSw
      (try dsimp only at hSw)
      go_simp
      try with_reducible rfl
    try simp only [Act.put, qa7, qb7, qc7, qd7, qe7, qf7]
    refine wpAnyN_done (by kernel_rfl) ?_ _
    go_wp2
    go_ret
    exact ⟨by simp, side_step H.out hba.drew HM.out HR.out (open_valid H.out.v _ _ _)⟩
  rw [if_neg kk1]
  have hq1 : (a.kind == 1) = false := by rw [beq_eq_false_iff_ne]; exact kk1
  by_cases kk2 : a.kind = 2
  · have hq2 : (a.kind == 2) = true := by rw [kk2]; rfl
    rw [if_pos kk2]
    clear kk1 kk2
    go_enter Tryz.func76, Tryz.ntmps76
    go_wp2
    rw [← hwa]
    clear hwa k1
    have hHeld := HS.out wa.drew fun q _ _ => rfl
    refine wp_region_n (n := 12) (S := fun w' => w'.cell? ⟨w.heap.size, 0, none⟩ = some (.pointer (some ⟨cb, 0, none⟩)) ∧ w'.cell? ⟨w.heap.size, 1, none⟩ = some (.pointer (some ⟨rb, 0, none⟩)) ∧ w'.cell? ⟨w.heap.size + 1, 2, none⟩ = some (.int .i64 a.typ) ∧ w'.cell? ⟨w.heap.size + 1, 3, none⟩ = some (.int .i64 a.day) ∧ w'.cell? ⟨w.heap.size + 1, 4, none⟩ = some (.string a.name)) (by kernel_rfl) ?_
    refine wpAnyN_take (i := 0) (v := ?_) rfl (by kernel_rfl) (by kernel_rfl) (by kernel_rfl) (by kernel_rfl) (fun _ _ _ h => h) (Or.inl ⟨by kernel_rfl, ?y19⟩) hHeld ?_
    case y19 =>
      intro w0 hSw
      (try dsimp only at hSw)
      go_simp
      try with_reducible rfl
    try simp only [Act.put, qa7, qb7, qc7, qd7, qe7, qf7]
    refine wpAnyN_take (i := 1) (v := ?_) rfl (by kernel_rfl) (by kernel_rfl) (by kernel_rfl) (by kernel_rfl) (fun _ _ _ h => h) (Or.inl ⟨by kernel_rfl, ?y20⟩) hHeld ?_
    case y20 =>
      intro w0 hSw
      (try dsimp only at hSw)
      go_simp
      try with_reducible rfl
    try simp only [Act.put, qa7, qb7, qc7, qd7, qe7, qf7]
    refine wpAnyN_take (i := 2) (v := ?_) rfl (by kernel_rfl) (by kernel_rfl) (by kernel_rfl) (by kernel_rfl) (fun _ _ _ h => h) (Or.inl ⟨by kernel_rfl, ?y21⟩) hHeld ?_
    case y21 =>
      intro w0 hSw
      (try dsimp only at hSw)
      go_simp
      try with_reducible rfl
    try simp only [Act.put, qa7, qb7, qc7, qd7, qe7, qf7]
    refine wpAnyN_take (i := 3) (v := ?_) rfl (by kernel_rfl) (by kernel_rfl) (by kernel_rfl) (by kernel_rfl) (fun _ _ _ h => h) (Or.inl ⟨by kernel_rfl, ?y22⟩) hHeld ?_
    case y22 =>
      intro w0 hSw
      (try dsimp only at hSw)
      go_simp
      try with_reducible rfl
    try simp only [Act.put, qa7, qb7, qc7, qd7, qe7, qf7]
    refine wpAnyN_take (i := 5) (v := ?_) rfl (by kernel_rfl) (by kernel_rfl) (by kernel_rfl) (by kernel_rfl) (fun _ _ _ h => h) (Or.inl ⟨by kernel_rfl, ?y23⟩) hHeld ?_
    case y23 =>
      intro w0 hSw
      (try dsimp only at hSw)
      go_simp
      try with_reducible rfl
    try simp only [Act.put, qa7, qb7, qc7, qd7, qe7, qf7]
    refine wpAnyN_take (i := 6) (v := ?_) rfl (by kernel_rfl) (by kernel_rfl) (by kernel_rfl) (by kernel_rfl) (fun _ _ _ h => h) (Or.inl ⟨by kernel_rfl, ?y24⟩) hHeld ?_
    case y24 =>
      intro w0 hSw
      (try dsimp only at hSw)
      go_simp
      try with_reducible rfl
    try simp only [Act.put, qa7, qb7, qc7, qd7, qe7, qf7]
    refine wpAnyN_take (i := 7) (v := ?_) rfl (by kernel_rfl) (by kernel_rfl) (by kernel_rfl) (by kernel_rfl) (fun _ _ _ h => h) (Or.inl ⟨by kernel_rfl, ?y25⟩) hHeld ?_
    case y25 =>
      intro w0 hSw
      (try dsimp only at hSw)
      go_simp
      try with_reducible rfl
    try simp only [Act.put, qa7, qb7, qc7, qd7, qe7, qf7]
    refine wpAnyN_take (i := 8) (v := ?_) rfl (by kernel_rfl) (by kernel_rfl) (by kernel_rfl) (by kernel_rfl) (fun _ _ _ h => h) (Or.inl ⟨by kernel_rfl, ?y26⟩) hHeld ?_
    case y26 =>
      intro w0 hSw
      (try dsimp only at hSw)
      go_simp
      try with_reducible rfl
    try simp only [Act.put, qa7, qb7, qc7, qd7, qe7, qf7]
    refine wpAnyN_step (i := 4) (by kernel_rfl) rfl (fun K hK => ?_)
    go_simp
    go_at_call 152
    refine (HCL.out _ hba.drew).mono ?_
    rintro en w2 hm
    have he := hm.ret
    subst he
    have HM := Lib.hid hm
    clear hm
    have hHeld := HS2.out w2 HM.out
    go_wp2_with fail
    refine hK.out _ _ (fun _ => hHeld) ?_
    clear hK K
    try simp only [Act.put, qa7, qb7, qc7, qd7, qe7, qf7]
    refine wpAnyN_step (i := 9) (by kernel_rfl) rfl (fun K hK => ?_)
    go_simp
    go_at_call 153
    refine (HRCL.out wa.drew w2 hba.drew HM.out).mono ?_
    rintro en w3 hr
    have he := hr.ret
    subst he
    have HR := Lib.hid hr
    clear hr
    have hHeld := HS3.out w2 w3 HM.out HR.out
    go_wp2_with fail
    refine hK.out _ _ (fun _ => hHeld) ?_
    clear hK K
    try simp only [Act.put, qa7, qb7, qc7, qd7, qe7, qf7]
    refine wpAnyN_take (i := 10) (v := ?_) rfl (by kernel_rfl) (by kernel_rfl) (by kernel_rfl) (by kernel_rfl) (fun _ _ _ h => h) (Or.inl ⟨by kernel_rfl, ?y27⟩) hHeld ?_
    case y27 =>
      intro w0 hSw
      (try dsimp only at hSw)
      go_simp
      try with_reducible rfl
    try simp only [Act.put, qa7, qb7, qc7, qd7, qe7, qf7]
    refine wpAnyN_take (i := 11) (v := ?_) rfl (by kernel_rfl) (by kernel_rfl) (by kernel_rfl) (by kernel_rfl) (fun _ _ _ h => h) (Or.inl ⟨by kernel_rfl, ?y28⟩) hHeld ?_
    case y28 =>
      intro w0 hSw
      (try dsimp only at hSw)
      go_simp
      try with_reducible rfl
    try simp only [Act.put, qa7, qb7, qc7, qd7, qe7, qf7]
    refine wpAnyN_done (by kernel_rfl) ?_ _
    go_wp2
    go_ret
    exact ⟨by simp, side_step H.out hba.drew HM.out HR.out (close_valid H.out.v _)⟩
  rw [if_neg kk2]
  have hq2 : (a.kind == 2) = false := by rw [beq_eq_false_iff_ne]; exact kk2
  by_cases kk3 : a.kind = 3
  · have hq3 : (a.kind == 3) = true := by rw [kk3]; rfl
    clear kk1 kk2 kk3
    go_enter Tryz.func76, Tryz.ntmps76
    go_wp2
    rw [← hwa]
    clear hwa k1
    have hHeld := HS.out wa.drew fun q _ _ => rfl
    refine wp_region_n (n := 16) (S := fun w' => w'.cell? ⟨w.heap.size, 0, none⟩ = some (.pointer (some ⟨cb, 0, none⟩)) ∧ w'.cell? ⟨w.heap.size, 1, none⟩ = some (.pointer (some ⟨rb, 0, none⟩)) ∧ w'.cell? ⟨w.heap.size + 1, 2, none⟩ = some (.int .i64 a.typ) ∧ w'.cell? ⟨w.heap.size + 1, 3, none⟩ = some (.int .i64 a.day) ∧ w'.cell? ⟨w.heap.size + 1, 4, none⟩ = some (.string a.name)) (by kernel_rfl) ?_
    refine wpAnyN_take (i := 0) (v := ?_) rfl (by kernel_rfl) (by kernel_rfl) (by kernel_rfl) (by kernel_rfl) (fun _ _ _ h => h) (Or.inl ⟨by kernel_rfl, ?y29⟩) hHeld ?_
    case y29 =>
      intro w0 hSw
      (try dsimp only at hSw)
      go_simp
      try with_reducible rfl
    try simp only [Act.put, qa7, qb7, qc7, qd7, qe7, qf7]
    refine wpAnyN_take (i := 1) (v := ?_) rfl (by kernel_rfl) (by kernel_rfl) (by kernel_rfl) (by kernel_rfl) (fun _ _ _ h => h) (Or.inl ⟨by kernel_rfl, ?y30⟩) hHeld ?_
    case y30 =>
      intro w0 hSw
      (try dsimp only at hSw)
      go_simp
      try with_reducible rfl
    try simp only [Act.put, qa7, qb7, qc7, qd7, qe7, qf7]
    refine wpAnyN_take (i := 2) (v := ?_) rfl (by kernel_rfl) (by kernel_rfl) (by kernel_rfl) (by kernel_rfl) (fun _ _ _ h => h) (Or.inl ⟨by kernel_rfl, ?y31⟩) hHeld ?_
    case y31 =>
      intro w0 hSw
      (try dsimp only at hSw)
      go_simp
      try with_reducible rfl
    try simp only [Act.put, qa7, qb7, qc7, qd7, qe7, qf7]
    refine wpAnyN_take (i := 3) (v := ?_) rfl (by kernel_rfl) (by kernel_rfl) (by kernel_rfl) (by kernel_rfl) (fun _ _ _ h => h) (Or.inl ⟨by kernel_rfl, ?y32⟩) hHeld ?_
    case y32 =>
      intro w0 hSw
      (try dsimp only at hSw)
      go_simp
      try with_reducible rfl
    try simp only [Act.put, qa7, qb7, qc7, qd7, qe7, qf7]
    refine wpAnyN_take (i := 4) (v := ?_) rfl (by kernel_rfl) (by kernel_rfl) (by kernel_rfl) (by kernel_rfl) (fun _ _ _ h => h) (Or.inl ⟨by kernel_rfl, ?y33⟩) hHeld ?_
    case y33 =>
      intro w0 hSw
      (try dsimp only at hSw)
      go_simp
      try with_reducible rfl
    try simp only [Act.put, qa7, qb7, qc7, qd7, qe7, qf7]
    refine wpAnyN_take (i := 5) (v := ?_) rfl (by kernel_rfl) (by kernel_rfl) (by kernel_rfl) (by kernel_rfl) (fun _ _ _ h => h) (Or.inl ⟨by kernel_rfl, ?y34⟩) hHeld ?_
    case y34 =>
      intro w0 hSw
      (try dsimp only at hSw)
      go_simp
      try with_reducible rfl
    try simp only [Act.put, qa7, qb7, qc7, qd7, qe7, qf7]
    refine wpAnyN_take (i := 7) (v := ?_) rfl (by kernel_rfl) (by kernel_rfl) (by kernel_rfl) (by kernel_rfl) (fun _ _ _ h => h) (Or.inl ⟨by kernel_rfl, ?y35⟩) hHeld ?_
    case y35 =>
      intro w0 hSw
      (try dsimp only at hSw)
      go_simp
      try with_reducible rfl
    try simp only [Act.put, qa7, qb7, qc7, qd7, qe7, qf7]
    refine wpAnyN_take (i := 8) (v := ?_) rfl (by kernel_rfl) (by kernel_rfl) (by kernel_rfl) (by kernel_rfl) (fun _ _ _ h => h) (Or.inl ⟨by kernel_rfl, ?y36⟩) hHeld ?_
    case y36 =>
      intro w0 hSw
      (try dsimp only at hSw)
      go_simp
      try with_reducible rfl
    try simp only [Act.put, qa7, qb7, qc7, qd7, qe7, qf7]
    refine wpAnyN_take (i := 9) (v := ?_) rfl (by kernel_rfl) (by kernel_rfl) (by kernel_rfl) (by kernel_rfl) (fun _ _ _ h => h) (Or.inl ⟨by kernel_rfl, ?y37⟩) hHeld ?_
    case y37 =>
      intro w0 hSw
      (try dsimp only at hSw)
      go_simp
      try with_reducible rfl
    try simp only [Act.put, qa7, qb7, qc7, qd7, qe7, qf7]
    refine wpAnyN_take (i := 10) (v := ?_) rfl (by kernel_rfl) (by kernel_rfl) (by kernel_rfl) (by kernel_rfl) (fun _ _ _ h => h) (Or.inl ⟨by kernel_rfl, ?y38⟩) hHeld ?_
    case y38 =>
      intro w0 hSw
      (try dsimp only at hSw)
      go_simp
      try with_reducible rfl
    try simp only [Act.put, qa7, qb7, qc7, qd7, qe7, qf7]
    refine wpAnyN_take (i := 11) (v := ?_) rfl (by kernel_rfl) (by kernel_rfl) (by kernel_rfl) (by kernel_rfl) (fun _ _ _ h => h) (Or.inl ⟨by kernel_rfl, ?y39⟩) hHeld ?_
    case y39 =>
      intro w0 hSw
      (try dsimp only at hSw)
      go_simp
      try with_reducible rfl
    try simp only [Act.put, qa7, qb7, qc7, qd7, qe7, qf7]
    refine wpAnyN_take (i := 12) (v := ?_) rfl (by kernel_rfl) (by kernel_rfl) (by kernel_rfl) (by kernel_rfl) (fun _ _ _ h => h) (Or.inl ⟨by kernel_rfl, ?y40⟩) hHeld ?_
    case y40 =>
      intro w0 hSw
      (try dsimp only at hSw)
      go_simp
      try with_reducible rfl
    try simp only [Act.put, qa7, qb7, qc7, qd7, qe7, qf7]
    refine wpAnyN_step (i := 6) (by kernel_rfl) rfl (fun K hK => ?_)
    go_simp
    go_at_call 154
    refine (HMA.out _ hba.drew).mono ?_
    rintro en wn ⟨rfl, hwn⟩
    subst hwn
    go_wp2_with fail
    refine hK.out _ _ (fun _ => hHeld) ?_
    clear hK K
    try simp only [Act.put, qa7, qb7, qc7, qd7, qe7, qf7]
    refine wpAnyN_step (i := 13) (by kernel_rfl) rfl (fun K hK => ?_)
    go_simp
    go_at_call 155
    refine (HRMA.out _ hba.drew).mono ?_
    rintro en wn ⟨rfl, hwn⟩
    have hwn := hwn.symm
    subst hwn
    go_wp2_with fail
    refine hK.out _ _ (fun _ => hHeld) ?_
    clear hK K
    try simp only [Act.put, qa7, qb7, qc7, qd7, qe7, qf7]
    refine wpAnyN_take (i := 14) (v := ?_) rfl (by kernel_rfl) (by kernel_rfl) (by kernel_rfl) (by kernel_rfl) (fun _ _ _ h => h) (Or.inl ⟨by kernel_rfl, ?y41⟩) hHeld ?_
    case y41 =>
      intro w0 hSw
      (try dsimp only at hSw)
      go_simp
      try with_reducible rfl
    try simp only [Act.put, qa7, qb7, qc7, qd7, qe7, qf7]
    refine wpAnyN_take (i := 15) (v := ?_) rfl (by kernel_rfl) (by kernel_rfl) (by kernel_rfl) (by kernel_rfl) (fun _ _ _ h => h) (Or.inl ⟨by kernel_rfl, ?y42⟩) hHeld ?_
    case y42 =>
      intro w0 hSw
      (try dsimp only at hSw)
      go_simp
      try with_reducible rfl
    try simp only [Act.put, qa7, qb7, qc7, qd7, qe7, qf7]
    refine wpAnyN_done (by kernel_rfl) ?_ _
    go_wp2
    go_ret
    exact ⟨by simp, SideGo.stay H.out hba.drew⟩
  · have hq3 : (a.kind == 3) = false := by rw [beq_eq_false_iff_ne]; exact kk3
    clear kk1 kk2 kk3
    go_enter Tryz.func76, Tryz.ntmps76
    go_wp2
    rw [← hwa]
    go_ret
    exact ⟨rfl, SideGo.stay H.out hba⟩
end Go.Proofs.YtplocldnklccfaaGreatDoor
namespace Go.Proofs.YtplocldnklccfaaGreatDoor
open Go.RowKit
set_option linter.unusedVariables false
set_option linter.unusedSimpArgs false

/-- A kept list: its number; written over; appended to; what it showed. -/
structure PageV (T : Type) where
  id : Int
  done : Bool
  grown : Bool
  was : List T

section
variable {T : Type} (mk : Int → Int → T)
def marksL (id : Int) (n : Nat) : List T := (List.range n).map fun k : Nat => mk id (k : Int)
theorem marksL_len (id : Int) (n : Nat) : (marksL mk id n).length = n := by simp [marksL]
theorem marksL_get (id : Int) (n k : Nat) (h : k < (marksL mk id n).length) : (marksL mk id n)[k] = mk id (k : Int) := by simp [marksL]
theorem marksL_succ (id : Int) (n : Nat) : marksL mk id (n + 1) = marksL mk id n ++ [mk id (n : Int)] := by simp [marksL, List.range_succ]
/-- What the list shows now. -/
def curL (p : PageV T) : List T := if p.done then marksL mk p.id p.was.length else p.was
/-- What the longer one shows. -/
def groL (p : PageV T) : List T := curL mk p ++ marksL mk (p.id + 100000) 64
theorem curL_len (p : PageV T) : (curL mk p).length = p.was.length := by unfold curL; split <;> simp [marksL_len]
theorem groL_len (p : PageV T) : (groL mk p).length = p.was.length + 64 := by unfold groL; rw [List.length_append, curL_len, marksL_len]

structure PageAt (w : World) (R : Nat → Prop) (e : TypeId) (s : Nat) (enc : T → List Value) (p : PageV T) (L G W : Value) : Prop where
  form : ∃ A c, L = .slice A p.was.length c
  small : p.was.length ≤ 1048576
  own : p.grown = false → w.ownsRow 0 e s L p.was.length ((curL mk p).map enc).flatten ∧ G = .slice none 0 0
  keep : p.done = false → p.grown = false ∧ w.ownsRow 0 e s W p.was.length (p.was.map enc).flatten ∧ ∀ q, L.ownBlock = some q → W.ownBlock ≠ some q
  gro : p.grown = true → p.done = true ∧ w.ownsRow 0 e s G (p.was.length + 64) ((groL mk p).map enc).flatten ∧ RowAt w R s L ((curL mk p).map enc)
  inR : ∀ q, L.ownBlock = some q ∨ G.ownBlock = some q ∨ W.ownBlock = some q → R q
variable {mk}
theorem PageAt.keepOn {w w' : World} {R R' : Nat → Prop} {e : TypeId} {s : Nat} {enc : T → List Value} {p : PageV T} {L G W : Value} (h : PageAt mk w R e s enc p L G W) (hk : ∀ q, R q → q < w.heap.size → w'.heap[q]? = w.heap[q]? ∧ R' q) (hR : ∀ q, R q → R' q) : PageAt mk w' R' e s enc p L G W where
  form := h.form
  small := h.small
  own := fun hg => ⟨ownsRow_keep (h.own hg).1 fun q hq => (hk q (h.inR q (.inl hq)) ((h.own hg).1.lt q hq).2).1, (h.own hg).2⟩
  keep := fun hd => ⟨(h.keep hd).1, ownsRow_keep (h.keep hd).2.1 fun q hq => (hk q (h.inR q (.inr (.inr hq))) ((h.keep hd).2.1.lt q hq).2).1, (h.keep hd).2.2⟩
  gro := fun hg => ⟨(h.gro hg).1, ownsRow_keep (h.gro hg).2.1 fun q hq => (hk q (h.inR q (.inr (.inl hq))) ((h.gro hg).2.1.lt q hq).2).1, (h.gro hg).2.2.keep hk⟩
  inR := fun q hq => hR q (h.inR q hq)
theorem PageAt.below {w w' : World} {R : Nat → Prop} {e : TypeId} {s : Nat} {enc : T → List Value} {p : PageV T} {L G W : Value} (h : PageAt mk w R e s enc p L G W) (hb : Below w.heap.size w w') : PageAt mk w' R e s enc p L G W :=
  h.keepOn (fun q hq hl => ⟨hb.block q hl, hq⟩) fun q hq => hq
/-- What the list shows can be read. -/
theorem PageAt.reads {w : World} {R : Nat → Prop} {e : TypeId} {s : Nat} {enc : T → List Value} {p : PageV T} {L G W : Value} (h : PageAt mk w R e s enc p L G W) (he : ∀ x, (enc x).length = s) : RowAt w R s L ((curL mk p).map enc) := by
  cases hg : p.grown with
  | true => exact (h.gro hg).2.2
  | false =>
    have h1 := (h.own hg).1
    rw [← curL_len mk p] at h1
    exact RowAt.of_own (by rw [List.length_map]; exact h1) (fun x hx => by obtain ⟨z, _, rfl⟩ := List.mem_map.1 hx; exact he z) fun q hq => h.inR q (.inl hq)
end
end Go.Proofs.YtplocldnklccfaaGreatDoor
namespace Go.Proofs.YtplocldnklccfaaGreatDoor
open Go.RowKit
set_option linter.unusedVariables false
set_option linter.unusedSimpArgs false

/-- A page: what it holds, its three lists, its blocks. -/
structure Pg (T : Type) where
  v : PageV T
  L : Value
  G : Value
  W : Value
  F : Nat → Prop
def Pg.cells {T : Type} (p : Pg T) : List Value := [p.L, p.G, p.W, .int .i64 p.v.id, .bool p.v.done]
theorem Pg.cells_len {T : Type} (p : Pg T) : p.cells.length = 5 := rfl

theorem flat_set {s : Nat} (u : Value) : ∀ (xs : List (List Value)), (∀ x ∈ xs, x.length = s) → ∀ k (hk : k < xs.length) i, i < s → xs.flatten.set (k * s + i) u = (xs.set k (xs[k].set i u)).flatten
  | [], _, k, hk, _, _ => by simp at hk
  | x :: xs, hs, 0, _, i, hi => by
    have hx : x.length = s := hs x (by simp)
    rw [List.flatten_cons, Nat.zero_mul, Nat.zero_add, List.set_append, if_pos (by omega)]
    rfl
  | x :: xs, hs, k + 1, hk, i, hi => by
    have hx : x.length = s := hs x (by simp)
    have he : (k + 1) * s + i = s + (k * s + i) := by rw [Nat.succ_mul]; omega
    rw [List.flatten_cons, List.set_append, if_neg (by omega), he, hx, Nat.add_sub_cancel_left, flat_set u xs (fun y hy => hs y (by simp [hy])) k (by simpa using hk) i hi]
    rfl

section
variable {T : Type} {mk : Int → Int → T}
structure PagesAt (mk : Int → Int → T) (w : World) (e : TypeId) (s : Nat) (enc : T → List Value) (pt : TypeId) (Tv : Value) (ps : List (Pg T)) : Prop where
  own : w.ownsRow 0 pt 5 Tv ps.length (ps.map Pg.cells).flatten
  page : ∀ j (h : j < ps.length), PageAt mk w ps[j].F e s enc ps[j].v ps[j].L ps[j].G ps[j].W
  lt : ∀ j (h : j < ps.length) q, ps[j].F q → q < w.heap.size
  dis : ∀ i j (hi : i < ps.length) (hj : j < ps.length), i ≠ j → ∀ q, ps[i].F q → ¬ ps[j].F q
  top : ∀ j (h : j < ps.length) q, ps[j].F q → Tv.ownBlock ≠ some q
variable {w w' : World} {e : TypeId} {s : Nat} {enc : T → List Value} {pt : TypeId} {Tv : Value} {ps : List (Pg T)}
theorem cells5 (ps : List (Pg T)) : ∀ x ∈ ps.map Pg.cells, x.length = 5 := fun x hx => by
  obtain ⟨p, _, rfl⟩ := List.mem_map.1 hx
  rfl
theorem PagesAt.at_ (h : PagesAt mk w e s enc pt Tv ps) (k : Nat) (hk : k < ps.length) : ∃ tb cap cs, Tv = .slice (some ⟨tb, 0, none⟩) ps.length cap ∧ w.heap[tb]? = some (.cells cs pt (0, 0)) ∧ ∀ i u, ps[k].cells[i]? = some u → cs[k * 5 + i]? = some u := by
  rcases h.own.2 with ⟨hv, h0⟩ | ⟨g, cap, cur, hv, _, hg, h1, h2, h3, h4⟩
  · omega
  · refine ⟨g, cap, cur, hv, hg, fun i u hu => ?_⟩
    have hf := flat_get (ps.map Pg.cells) (cells5 ps) k (by simpa using hk) i u (by simpa using hu)
    have hlt : k * 5 + i < ps.length * 5 := by
      have := (List.getElem?_eq_some_iff.1 hf).1
      rw [flat_len _ (cells5 ps), List.length_map] at this
      exact this
    rw [← h4, List.getElem?_take, if_pos hlt, Array.getElem?_toList] at hf
    exact hf
/-- Nothing of the pages is touched. -/
theorem PagesAt.ch {G : Nat → Prop} (h : PagesAt mk w e s enc pt Tv ps) (hc : Ch G w w') (hG : ∀ j (hj : j < ps.length) q, ps[j].F q → ¬ G q) (hT : ∀ q, Tv.ownBlock = some q → ¬ G q) : PagesAt mk w' e s enc pt Tv ps where
  own := ownsRow_keep h.own fun q hq => hc.block q (h.own.lt q hq).2 (hT q hq)
  page := fun j hj => (h.page j hj).keepOn (fun q hq hl => ⟨hc.block q hl (hG j hj q hq), hq⟩) fun q hq => hq
  lt := fun j hj q hq => Nat.lt_of_lt_of_le (h.lt j hj q hq) hc.size
  dis := h.dis
  top := h.top
theorem PagesAt.below (h : PagesAt mk w e s enc pt Tv ps) (hb : Below w.heap.size w w') : PagesAt mk w' e s enc pt Tv ps :=
  h.ch (G := fun _ => False) (Ch.of_below hb) (fun _ _ _ _ hf => hf) fun _ _ hf => hf
/-- A page is turned: one of its cells, blocks of its own. -/
theorem PagesAt.set {D : Nat → Prop} {tb cap : Nat} {cs : Array Value} (h : PagesAt mk w e s enc pt Tv ps) (k : Nat) (hk : k < ps.length) (hT : Tv = .slice (some ⟨tb, 0, none⟩) ps.length cap) (hcs : w.heap[tb]? = some (.cells cs pt (0, 0))) (i : Nat) (hi : i < 5) (u : Value)
    (hcs' : w'.heap[tb]? = some (.cells (cs.setIfInBounds (k * 5 + i) u) pt (0, 0))) (hc : Ch (fun q => q = tb ∨ D q) w w') (hD : ∀ q, D q → ps[k].F q) (p' : Pg T) (hp' : p'.cells = ps[k].cells.set i u)
    (hpg : PageAt mk w' p'.F e s enc p'.v p'.L p'.G p'.W) (hF : ∀ q, p'.F q → (ps[k].F q ∨ w.heap.size ≤ q) ∧ q < w'.heap.size) : PagesAt mk w' e s enc pt Tv (ps.set k p') := by
  have hne : ∀ j (hj : j < ps.length) q, ps[j].F q → q ≠ tb := fun j hj q hq e => h.top j hj q hq (by rw [hT, e]; rfl)
  have get : ∀ j (hj : j < (ps.set k p').length), (j = k ∧ (ps.set k p')[j] = p') ∨ (j ≠ k ∧ ∃ hj' : j < ps.length, (ps.set k p')[j] = ps[j]) := fun j hj => by
    by_cases e : j = k
    · exact .inl ⟨e, by subst e; simp⟩
    · exact .inr ⟨e, by simpa using hj, by rw [List.getElem_set_ne (Ne.symm e)]⟩
  constructor
  · have h1 := own_set h.own (g := tb) (by rw [hT]; rfl) (k * 5 + i) u
    have h2 := ownsRow_keep (w' := w') h1 fun q hq => by
      obtain rfl : q = tb := by rw [hT] at hq; exact (Option.some.inj hq).symm
      rw [heap_setCell_same hcs, hcs']
    rw [flat_set u _ (cells5 ps) k (by simpa using hk) i hi] at h2
    rw [List.length_set, List.map_set, hp']
    rw [List.getElem_map] at h2
    exact h2
  · intro j hj
    rcases get j hj with ⟨_, e⟩ | ⟨hjk, hj', e⟩
    · rw [e]
      exact hpg
    · rw [e]
      refine (h.page j hj').keepOn (fun q hq hl => ⟨hc.block q hl ?_, hq⟩) fun q hq => hq
      rintro (e2 | hd)
      · exact hne j hj' q hq e2
      · exact h.dis j k hj' hk hjk q hq (hD q hd)
  · intro j hj q hq
    rcases get j hj with ⟨_, e⟩ | ⟨_, hj', e⟩
    · rw [e] at hq
      exact (hF q hq).2
    · rw [e] at hq
      exact Nat.lt_of_lt_of_le (h.lt j hj' q hq) hc.size
  · intro a b ha hb hab q hq hq'
    rcases get a ha with ⟨ea, e⟩ | ⟨hak, ha', e⟩ <;> rcases get b hb with ⟨eb, e'⟩ | ⟨hbk, hb', e'⟩
    · exact hab (by rw [ea, eb])
    · rw [e] at hq
      rw [e'] at hq'
      rcases (hF q hq).1 with h1 | h1
      · exact h.dis k b hk hb' (Ne.symm hbk) q h1 hq'
      · exact absurd (h.lt b hb' q hq') (by omega)
    · rw [e] at hq
      rw [e'] at hq'
      rcases (hF q hq').1 with h1 | h1
      · exact h.dis a k ha' hk hak q hq h1
      · exact absurd (h.lt a ha' q hq) (by omega)
    · rw [e] at hq
      rw [e'] at hq'
      exact h.dis a b ha' hb' hab q hq hq'
  · intro j hj q hq hqT
    rcases get j hj with ⟨_, e⟩ | ⟨_, hj', e⟩
    · rw [e] at hq
      rcases (hF q hq).1 with h1 | h1
      · exact h.top k hk q h1 hqT
      · rw [hT] at hqT
        obtain rfl : tb = q := Option.some.inj hqT
        have := heap_lt hcs
        omega
    · rw [e] at hq
      exact h.top j hj' q hq hqT
/-- A page more. -/
theorem PagesAt.push {Tv' : Value} (h : PagesAt mk w e s enc pt Tv ps) (p : Pg T) (hk : ∀ j (hj : j < ps.length) q, ps[j].F q → w'.heap[q]? = w.heap[q]?) (hsz : w.heap.size ≤ w'.heap.size) (hown : w'.ownsRow 0 pt 5 Tv' (ps.length + 1) ((ps.map Pg.cells).flatten ++ p.cells)) (hT : ∀ q, Tv'.ownBlock = some q → (∀ j (hj : j < ps.length), ¬ ps[j].F q) ∧ ¬ p.F q)
    (hpg : PageAt mk w' p.F e s enc p.v p.L p.G p.W) (hlt : ∀ q, p.F q → q < w'.heap.size) (hd : ∀ q, p.F q → ∀ j (hj : j < ps.length), ¬ ps[j].F q) : PagesAt mk w' e s enc pt Tv' (ps ++ [p]) := by
  have get : ∀ j (hj : j < (ps ++ [p]).length), (j = ps.length ∧ (ps ++ [p])[j] = p) ∨ ∃ hj' : j < ps.length, (ps ++ [p])[j] = ps[j] := fun j hj => by
    by_cases e : j < ps.length
    · exact .inr ⟨e, List.getElem_append_left e⟩
    · have e2 : j = ps.length := by simp at hj; omega
      exact .inl ⟨e2, by subst e2; simp⟩
  constructor
  · rw [List.map_append, List.flatten_append, List.length_append]
    simpa using hown
  · intro j hj
    rcases get j hj with ⟨_, e⟩ | ⟨hj', e⟩
    · rw [e]
      exact hpg
    · rw [e]
      exact (h.page j hj').keepOn (fun q hq _ => ⟨hk j hj' q hq, hq⟩) fun q hq => hq
  · intro j hj q hq
    rcases get j hj with ⟨_, e⟩ | ⟨hj', e⟩
    · rw [e] at hq
      exact hlt q hq
    · rw [e] at hq
      exact Nat.lt_of_lt_of_le (h.lt j hj' q hq) hsz
  · intro a b ha hb hab q hq hq'
    rcases get a ha with ⟨ea, e⟩ | ⟨ha', e⟩ <;> rcases get b hb with ⟨eb, e'⟩ | ⟨hb', e'⟩
    · exact hab (by rw [ea, eb])
    · rw [e] at hq
      rw [e'] at hq'
      exact hd q hq b hb' hq'
    · rw [e] at hq
      rw [e'] at hq'
      exact hd q hq' a ha' hq
    · rw [e] at hq
      rw [e'] at hq'
      exact h.dis a b ha' hb' hab q hq hq'
  · intro j hj q hq hqT
    rcases get j hj with ⟨_, e⟩ | ⟨hj', e⟩
    · rw [e] at hq
      exact (hT q hqT).2 hq
    · rw [e] at hq
      exact (hT q hqT).1 j hj' hq
theorem PagesAt.nil (w : World) : PagesAt mk w e s enc pt (.slice none 0 0) [] where
  own := ⟨rfl, .inl ⟨rfl, rfl⟩⟩
  page := fun j hj => by simp at hj
  lt := fun j hj => by simp at hj
  dis := fun i j hi => by simp at hi
  top := fun j hj => by simp at hj
end
end Go.Proofs.YtplocldnklccfaaGreatDoor
namespace Go.Proofs.YtplocldnklccfaaGreatDoor
open Go.RowKit Go.Shelf
set_option linter.unusedVariables false
set_option linter.unusedSimpArgs false

/-- The table that numbers' texts are made with. -/
def Pow (w : World) : Prop := Lib.TabIs Tryz.prog w "internal/strconv.uint64pow10" .u64 Lib.pow10Tab
theorem pow_at : ∃ g, Tryz.prog.globalNamed "internal/strconv.uint64pow10" = some g := ⟨3, by kernel_rfl⟩
theorem Pow.below {w w' : World} (h : Pow w) (hb : Below w.heap.size w w') : Pow w' := by
  obtain ⟨g, hg⟩ := pow_at
  unfold Pow Lib.TabIs World.var? at h ⊢
  rw [hg] at h ⊢
  simp only [Option.bind_some] at h ⊢
  have hlt : g < w.heap.size := by
    rcases Nat.lt_or_ge g w.heap.size with h' | h'
    · exact h'
    · rw [Array.getElem?_eq_none h'] at h; cases h
  rw [hb.block g hlt]
  exact h
theorem pow_named : Tryz.prog.globalNamed "internal/strconv.uint64pow10" = some 3 := by kernel_rfl
theorem Pow.lt {w : World} (h : Pow w) : 3 < w.heap.size := by
  unfold Pow Lib.TabIs World.var? at h
  rw [pow_named] at h
  simp only [Option.bind_some] at h
  rcases Nat.lt_or_ge 3 w.heap.size with h' | h'
  · exact h'
  · rw [Array.getElem?_eq_none h'] at h; cases h
theorem Pow.ch {F : Nat → Prop} {w w' : World} (h : Pow w) (hc : Ch F w w') (hF : ∀ q, F q → q ≠ 3) : Pow w' := by
  have hlt := h.lt
  unfold Pow Lib.TabIs World.var? at h ⊢
  rw [pow_named] at h ⊢
  simp only [Option.bind_some] at h ⊢
  rw [hc.block _ hlt fun hf => hF _ hf rfl]
  exact h
theorem bel_grow (w : World) (k : Nat) (os : Array Obj) : Below w.heap.size w (Sort.grow (w.drewN k) os) :=
  ⟨rfl, rfl, rfl, by simp [Sort.grow], fun q hq => by
    show (w.heap ++ os)[q]? = _
    rw [Array.getElem?_append_left hq]⟩
/-- A mark that is a text. -/
def textF (id k : Int) : ByteArray := (⟨#[109, 97, 114, 107, 32]⟩ : ByteArray) ++ ⟨(Lib.itoa id).toArray⟩ ++ ⟨#[32]⟩ ++ ⟨(Lib.itoa k).toArray⟩
set_option maxRecDepth 100000 in
theorem text_any (w : World) (hp : Pow w) (id k : Int) (h1 : -9223372036854775808 ≤ id ∧ id ≤ 9223372036854775807) (h2 : -9223372036854775808 ≤ k ∧ k ≤ 9223372036854775807) :
    Calls Tryz.prog 169 #[.int .i64 id, .int .i64 k] w fun e w' => e = .returned (.string (textF id k)) ∧ Below w.heap.size w w' := by
  have hi1 := Tryz.strconv_Itoa id h1.1 h1.2 w hp
  have hi2 := fun W (hb : Below w.heap.size w W) => Tryz.strconv_Itoa k h2.1 h2.2 W (hp.below hb)
  obtain ⟨T1, hT1⟩ : ∃ T, T = Lib.itoa id := ⟨_, rfl⟩
  obtain ⟨T2, hT2⟩ : ∃ T, T = Lib.itoa k := ⟨_, rfl⟩
  unfold textF
  rw [← hT1, ← hT2]
  rw [← hT1] at hi1
  simp only [← hT2] at hi2
  have hl1 := Lib.itoa_length_le id h1.1 h1.2
  have hl2 := Lib.itoa_length_le k h2.1 h2.2
  rw [← hT1] at hl1
  rw [← hT2] at hl2
  have z1 : ¬ (9223372036854775807 < 5 + T1.length) := by omega
  have z2 : ¬ (9223372036854775807 < 5 + T1.length + 1) := by omega
  have z3 : ¬ (9223372036854775807 < 5 + T1.length + 1 + T2.length) := by omega
  clear hT1 hT2 hl1 hl2
  go_enter Tryz.func169, Tryz.ntmps169
  go_wp2_with (go_at_call 226; refine hi1.mono ?_)
  rintro e w1 ⟨rfl, q1, os1, rfl⟩
  have hb1 := bel_grow w q1 os1
  have hi3 := hi2 _ hb1
  generalize Sort.grow (w.drewN q1) os1 = w1 at hb1 hi3 ⊢
  clear hi1 hi2
  go_wp2_with (go_at_call 226; refine hi3.mono ?_)
  rintro e w2 ⟨rfl, q2, os2, rfl⟩
  have hb2 := bel_grow w1 q2 os2
  generalize Sort.grow (w1.drewN q2) os2 = w2 at hb2 ⊢
  go_wp2
  go_ret
  exact ⟨by first | rfl | simp [ByteArray.append_assoc], hb1.trans (hb2.mono hb1.size)⟩
theorem markTexts_any (w : World) (hp : Pow w) (id k : Int) (h1 : -9223372036854775808 ≤ id ∧ id ≤ 9223372036854775807) (h2 : -9223372036854775808 ≤ k ∧ k ≤ 9223372036854775807) :
    Calls Tryz.prog 86 #[.int .i64 id, .int .i64 k] w fun e w' => e = .returned (.string (textF id k)) ∧ Below w.heap.size w w' := by
  have h := text_any w hp id k h1 h2
  go_enter Tryz.func86, Tryz.ntmps86
  go_wp2_with (go_at_call 169; refine h.mono ?_; rintro e w1 ⟨rfl, hb1⟩)
  go_ret
  exact ⟨rfl, hb1⟩
theorem behind_any (w : World) (id : Int) (h1 : 0 ≤ id ∧ id ≤ 1048576) :
    Calls Tryz.prog 87 #[.int .i64 id] w fun e w' => e = .returned (.int .i64 (id + 100000)) ∧ w' = w := by
  have hw : wrap64 (id + 100000) = id + 100000 := by unfold wrap64; omega
  have hw' : IntKind.i64.wrap (id + 100000) = id + 100000 := IntWalk.i64_in _ (by omega)
  go_enter Tryz.func87, Tryz.ntmps87
  go_wp2
  go_ret
  exact ⟨rfl, rfl⟩
theorem sameT_any (w : World) (a b : ByteArray) : Calls Tryz.prog 230 #[.string a, .string b] w fun e w' => e = .returned (.bool (a.toList == b.toList)) ∧ w' = w := by
  go_enter Tryz.func230, Tryz.ntmps230
  go_wp2
  go_ret
  exact ⟨rfl, rfl⟩
end Go.Proofs.YtplocldnklccfaaGreatDoor
namespace Go.Proofs.YtplocldnklccfaaGreatDoor
open Go.RowKit
set_option linter.unusedVariables false
set_option linter.unusedSimpArgs false

def txts (id : Int) (n : Nat) : List Value := (marksL textF id n).map .string
theorem txts_succ (id : Int) (n : Nat) : txts id (n + 1) = txts id n ++ [.string (textF id n)] := by unfold txts; rw [marksL_succ, List.map_append]; rfl
theorem txts_len (id : Int) (n : Nat) : (txts id n).length = n := by unfold txts; rw [List.length_map, marksL_len]
theorem txts_set (id : Int) (k : Nat) (xs : List Value) (h : k < xs.length) : (txts id k ++ xs.drop k).set k (.string (textF id k)) = txts id (k + 1) ++ xs.drop (k + 1) := by
  rw [txts_succ, List.set_append, if_neg (by rw [txts_len]; omega), txts_len, Nat.sub_self, List.drop_eq_getElem_cons h, List.set_cons_zero, List.append_assoc]
  rfl

structure FillInv (w : World) (pb : Nat) (cs : Array Value) (pt : TypeId) (L : Value) (n : Nat) (id : Int) (xs : List Value) (i : Value) (wr : World) (k : Nat) : Prop where
  le : k ≤ n
  at_ : i = .int .i64 (k : Int)
  page : wr.heap[pb]? = some (.cells cs pt (0, 0))
  own : wr.ownsRow 0 9 1 L n (txts id k ++ xs.drop k)
  ch : Ch (fun q => L.ownBlock = some q) w wr
set_option maxRecDepth 100000 in
set_option maxHeartbeats 4000000 in
theorem fill_any {w : World} {pb po n c : Nat} {cs : Array Value} {pt : TypeId} {A : Option Addr} {id : Int} {d : Bool} {xs : List Value} (hp : w.heap[pb]? = some (.cells cs pt (0, 0)))
    (h0 : cs[po]? = some (.slice A n c)) (h3 : cs[po + 3]? = some (.int .i64 id)) (h4 : cs[po + 4]? = some (.bool d)) (hown : w.ownsRow 0 9 1 (.slice A n c) n xs)
    (hne : ∀ q, (Value.slice A n c).ownBlock = some q → q ≠ pb) (hn : n ≤ 1048576) (hid : 0 ≤ id ∧ id ≤ 1048576) (hpow : ∀ W, Ch (fun q => (Value.slice A n c).ownBlock = some q) w W → Pow W) :
    Calls Tryz.prog 30 #[.pointer (some ⟨pb, po, none⟩)] w fun e w' => e = .returned (.tuple #[]) ∧ w'.heap[pb]? = some (.cells (cs.setIfInBounds (po + 4) (.bool true)) pt (0, 0)) ∧
      w'.ownsRow 0 9 1 (.slice A n c) n (txts id n) ∧ Ch (fun q => q = pb ∨ (Value.slice A n c).ownBlock = some q) w w' := by
  have HXL := Lib.hid (show xs.length = n by have := hown.1; omega)
  have HC := Lib.hid (And.intro h0 (And.intro h3 h4))
  have HN := Lib.hid hne
  have HPOW := Lib.hid hpow
  have HI := Lib.hid (show FillInv w pb cs pt (.slice A n c) n id xs (.int .i64 0) w 0 from ⟨Nat.zero_le _, rfl, hp, by simpa [txts, marksL] using hown, Ch.refl _ _⟩)
  have hblk := heap_lt hp
  clear hp h0 h3 h4 hown hne hpow
  go_enter Tryz.func30, Tryz.ntmps30
  go_wp2
  go_loopw [2] (fun i wr => ∃ k : Nat, FillInv w pb cs pt (.slice A n c) n id xs i wr k) (fun i _ => n - (intOf i).toNat)
  case atStart => exact ⟨0, HI.out⟩
  case round =>
    obtain ⟨k, hk, rfl, hpg, hrow, hch⟩ := hrel
    have hcell : ∀ W : World, W.heap[pb]? = wr.heap[pb]? → W.cell? ⟨pb, po, none⟩ = some (.slice A n c) ∧ W.cell? ⟨pb, po + 3, none⟩ = some (.int .i64 id) ∧ W.cell? ⟨pb, po + 4, none⟩ = some (.bool d) := fun W hW => by
      rw [cell_of_blk (hW.trans hpg), cell_of_blk (hW.trans hpg), cell_of_blk (hW.trans hpg)]
      exact ⟨HC.out.1, HC.out.2.1, HC.out.2.2⟩
    have HCELL := Lib.hid hcell
    have HPG := Lib.hid hpg
    have HCH := Lib.hid hch
    obtain ⟨p0, _, p4⟩ := hcell wr rfl
    by_cases hlt : k < n
    · have hA : ∃ lb, A = some ⟨lb, 0, none⟩ := by
        rcases hrow.2 with ⟨hv, h0⟩ | ⟨g, cap, cur, hv, _⟩
        · omega
        · injection hv with e1 _ _; exact ⟨g, e1⟩
      obtain ⟨lb, rfl⟩ := hA
      have hll := (hrow.lt lb rfl).2
      have hlp : lb ≠ pb := HN.out lb rfl
      have hblr : pb < wr.heap.size := heap_lt hpg
      have HOWN := Lib.hid (fun W (hb : Below wr.drew.heap.size wr.drew W) => ownsRow_keep (w' := W) hrow fun q e => hb.block q (hrow.lt q e).2)
      have HS := Lib.hid (fun W (hb : Below wr.drew.heap.size wr.drew W) => (show W.cell? ⟨pb, po, none⟩ = some (.slice (some ⟨lb, 0, none⟩) n c) ∧ W.cell? ⟨pb, po + 3, none⟩ = some (.int .i64 id) from ⟨(HCELL.out W (hb.block pb hblr)).1, (HCELL.out W (hb.block pb hblr)).2.1⟩))
      have HST := Lib.hid (fun W (hb : Below wr.drew.heap.size wr.drew W) => (show ((W.setCell ⟨lb, k, none⟩ (.string (textF id k))).cell? ⟨pb, po, none⟩ = some (.slice (some ⟨lb, 0, none⟩) n c) ∧ (W.setCell ⟨lb, k, none⟩ (.string (textF id k))).cell? ⟨pb, po + 3, none⟩ = some (.int .i64 id)) from ⟨(HCELL.out _ ((Below.heap_setCell W ⟨lb, k, none⟩ (.string (textF id k)) pb (Ne.symm hlp)).trans (hb.block pb hblr))).1, (HCELL.out _ ((Below.heap_setCell W ⟨lb, k, none⟩ (.string (textF id k)) pb (Ne.symm hlp)).trans (hb.block pb hblr))).2.1⟩))
      have hmk := markTexts_any wr.drew (HPOW.out wr.drew hch.drew) id (k : Int) ⟨by omega, by omega⟩ ⟨by omega, by omega⟩
      have hHeld := HS.out wr.drew (Below.refl _ _)
      have hmu : n - ((k : Int) + 1).toNat < n - k := by omega
      have hwk : wrap64 ((k : Int) + 1) = (k : Int) + 1 := by unfold wrap64; omega
      clear hrow hcell hch hpg p4
      go_wp2
      clear p0
      refine wp_region_n (n := 13) (S := fun w' => w'.cell? ⟨pb, po, none⟩ = some (.slice (some ⟨lb, 0, none⟩) n c) ∧ w'.cell? ⟨pb, po + 3, none⟩ = some (.int .i64 id)) (by kernel_rfl) ?_
      refine wpAnyN_take (i := 0) (v := ?_) rfl (by kernel_rfl) (by kernel_rfl) (by kernel_rfl) (by kernel_rfl) (fun _ _ _ h => h) (Or.inl ⟨by kernel_rfl, ?y1⟩) hHeld ?_
      case y1 =>
        intro w0 hSw
        (try dsimp only at hSw)
        go_simp
        try with_reducible rfl
      try simp only [Act.put, qa7, qb7, qc7, qd7, qe7, qf7]
      refine wpAnyN_take (i := 1) (v := ?_) rfl (by kernel_rfl) (by kernel_rfl) (by kernel_rfl) (by kernel_rfl) (fun _ _ _ h => h) (Or.inl ⟨by kernel_rfl, ?y2⟩) hHeld ?_
      case y2 =>
        intro w0 hSw
        (try dsimp only at hSw)
        go_simp
        try with_reducible rfl
      try simp only [Act.put, qa7, qb7, qc7, qd7, qe7, qf7]
      refine wpAnyN_take (i := 2) (v := ?_) rfl (by kernel_rfl) (by kernel_rfl) (by kernel_rfl) (by kernel_rfl) (fun _ _ _ h => h) (Or.inl ⟨by kernel_rfl, ?y3⟩) hHeld ?_
      case y3 =>
        intro w0 hSw
        (try dsimp only at hSw)
        go_simp
        try with_reducible rfl
      try simp only [Act.put, qa7, qb7, qc7, qd7, qe7, qf7]
      refine wpAnyN_take (i := 3) (v := ?_) rfl (by kernel_rfl) (by kernel_rfl) (by kernel_rfl) (by kernel_rfl) (fun _ _ _ h => h) (Or.inl ⟨by kernel_rfl, ?y4⟩) hHeld ?_
      case y4 =>
        intro w0 hSw
        (try dsimp only at hSw)
        go_simp
        try with_reducible rfl
      try simp only [Act.put, qa7, qb7, qc7, qd7, qe7, qf7]
      refine wpAnyN_take (i := 4) (v := ?_) rfl (by kernel_rfl) (by kernel_rfl) (by kernel_rfl) (by kernel_rfl) (fun _ _ _ h => h) (Or.inl ⟨by kernel_rfl, ?y5⟩) hHeld ?_
      case y5 =>
        intro w0 hSw
        (try dsimp only at hSw)
        go_simp
        try with_reducible rfl
      try simp only [Act.put, qa7, qb7, qc7, qd7, qe7, qf7]
      refine wpAnyN_take (i := 5) (v := ?_) rfl (by kernel_rfl) (by kernel_rfl) (by kernel_rfl) (by kernel_rfl) (fun _ _ _ h => h) (Or.inl ⟨by kernel_rfl, ?y6⟩) hHeld ?_
      case y6 =>
        intro w0 hSw
        (try dsimp only at hSw)
        go_simp
        try with_reducible rfl
      try simp only [Act.put, qa7, qb7, qc7, qd7, qe7, qf7]
      refine wpAnyN_take (i := 6) (v := ?_) rfl (by kernel_rfl) (by kernel_rfl) (by kernel_rfl) (by kernel_rfl) (fun _ _ _ h => h) (Or.inl ⟨by kernel_rfl, ?y7⟩) hHeld ?_
      case y7 =>
        intro w0 hSw
        (try dsimp only at hSw)
        go_simp
        try with_reducible rfl
      try simp only [Act.put, qa7, qb7, qc7, qd7, qe7, qf7]
      refine wpAnyN_take (i := 7) (v := ?_) rfl (by kernel_rfl) (by kernel_rfl) (by kernel_rfl) (by kernel_rfl) (fun _ _ _ h => h) (Or.inl ⟨by kernel_rfl, ?y8⟩) hHeld ?_
      case y8 =>
        intro w0 hSw
        (try dsimp only at hSw)
        go_simp
        try with_reducible rfl
      try simp only [Act.put, qa7, qb7, qc7, qd7, qe7, qf7]
      refine wpAnyN_take (i := 8) (v := ?_) rfl (by kernel_rfl) (by kernel_rfl) (by kernel_rfl) (by kernel_rfl) (fun _ _ _ h => h) (Or.inl ⟨by kernel_rfl, ?y9⟩) hHeld ?_
      case y9 =>
        intro w0 hSw
        (try dsimp only at hSw)
        go_simp
        try with_reducible rfl
      try simp only [Act.put, qa7, qb7, qc7, qd7, qe7, qf7]
      refine wpAnyN_take (i := 9) (v := ?_) rfl (by kernel_rfl) (by kernel_rfl) (by kernel_rfl) (by kernel_rfl) (fun _ _ _ h => h) (Or.inl ⟨by kernel_rfl, ?y10⟩) hHeld ?_
      case y10 =>
        intro w0 hSw
        (try dsimp only at hSw)
        go_simp
        try with_reducible rfl
      try simp only [Act.put, qa7, qb7, qc7, qd7, qe7, qf7]
      refine wpAnyN_step (i := 10) (by kernel_rfl) rfl (fun K hK => ?_)
      go_simp
      go_at_call 86
      refine (hmk).mono ?_
      rintro en wx ⟨rfl, hbx⟩
      have hHeld := HS.out wx hbx
      clear hmk
      go_wp2_with fail
      refine hK.out _ _ (fun _ => hHeld) ?_
      clear hK K
      try simp only [Act.put, qa7, qb7, qc7, qd7, qe7, qf7]
      refine wpAnyN_take (i := 11) (v := ?_) rfl (by kernel_rfl) (by kernel_rfl) (by kernel_rfl) (by kernel_rfl) (fun _ _ _ h => h) (Or.inl ⟨by kernel_rfl, ?y11⟩) hHeld ?_
      case y11 =>
        intro w0 hSw
        (try dsimp only at hSw)
        go_simp
        try with_reducible rfl
      try simp only [Act.put, qa7, qb7, qc7, qd7, qe7, qf7]
      refine wpAnyN_step (i := 12) (by kernel_rfl) rfl (fun K hK => ?_)
      have q1 := own_get (HOWN.out wx hbx) (g := lb) rfl k (by omega)
      have q2 := own_froz (HOWN.out wx hbx) (g := lb) rfl k
      rw [List.getElem?_append_right (by rw [txts_len]; exact Nat.le_refl _), txts_len, Nat.sub_self] at q1
      obtain ⟨y, hy⟩ : ∃ y, (xs.drop k)[0]? = some y := ⟨_, List.getElem?_eq_getElem (by rw [List.length_drop]; have := HXL.out; omega)⟩
      rw [hy] at q1
      clear hy
      go_simp
      refine hK.out _ _ (fun _ => HST.out wx hbx) ?_
      clear hK K
      try simp only [Act.put, qa7, qb7, qc7, qd7, qe7, qf7]
      refine wpAnyN_done (by kernel_rfl) ?_ _
      have hfin := own_set (HOWN.out wx hbx) (g := lb) rfl k (.string (textF id k))
      have hset := txts_set id k xs (by have := HXL.out; omega)
      unfold txts at hset hfin
      rw [hset] at hfin
      have hfp := (Below.heap_setCell wx ⟨lb, k, none⟩ (.string (textF id k)) pb (Ne.symm hlp)).trans ((hbx.block pb hblr).trans HPG.out)
      have hfc := ((HCH.out.drew).below hbx).setCell (p := ⟨lb, k, none⟩) (.inl rfl) (.string (textF id k))
      have HF := Lib.hid (And.intro hfp (And.intro hfin hfc))
      clear hfin hset hfp hfc q1 q2 hHeld
      go_wp2
      go_roundw
      case rel => exact ⟨k + 1, Nat.succ_le_of_lt hlt, by go_num, HF.out.1, HF.out.2.1, HF.out.2.2⟩
      case measure => simpa [intOf] using hmu
    · obtain rfl : k = n := by omega
      have f4 := frozen_blk hpg (po + 4)
      have hd : xs.drop k = [] := List.drop_of_length_le (by have := HXL.out; omega)
      rw [hd, List.append_nil] at hrow
      have hfin := ownsRow_keep (w' := wr.setCell ⟨pb, po + 4, none⟩ (.bool true)) hrow fun q e => Below.heap_setCell _ _ _ _ (HN.out q e)
      have hfp := heap_setCell_same (i := po + 4) hpg (.bool true)
      have hfc := (hch.mono (G := fun q => q = pb ∨ (Value.slice A k c).ownBlock = some q) fun q h => .inr h).setCell (p := ⟨pb, po + 4, none⟩) (.inl (.inl rfl)) (.bool true)
      have HF := Lib.hid (And.intro hfp (And.intro hfin hfc))
      clear hfin hfp hfc hrow hpg hch hcell hd
      go_wp2
      go_end0
      exact ⟨rfl, HF.out.1, HF.out.2.1, HF.out.2.2⟩
end Go.Proofs.YtplocldnklccfaaGreatDoor
namespace Go.Proofs.YtplocldnklccfaaGreatDoor
open Go.RowKit
set_option linter.unusedVariables false
set_option linter.unusedSimpArgs false

theorem room63 {n k : Nat} (h : n ≤ 1048576) (hk : k < 64) : n + k + 1 ≤ maxLen := by unfold maxLen; omega
theorem room47 {n k : Nat} (h : n ≤ 1048576) (hk : k < 64) : (n + k + 1) * 16 ≤ 140737488355328 := by omega
theorem txt_stays {w w' : World} {A : Option Addr} {c : Nat} {l : List ByteArray} {B e g cap m : Nat} {ys : List Value} {v : Value} (hL : TxtAt w (.slice A l.length c) l) (hown : w'.ownsRow B e 1 (.slice (some ⟨g, 0, none⟩) (l.length + m) cap) (l.length + m) (l.map Value.string ++ ys))
    (hgr : w.grownBy w' v.ownBlock) (hat : v.ownBlock = some g ∨ (g = w.heap.size ∧ w.grownBy w' none)) (hA : ∀ ad, A = some ad → ad = ⟨ad.block, 0, none⟩) : TxtAt w' (.slice A l.length c) l := by
  obtain ⟨A', c', hf, hx⟩ := hL
  injection hf with h1 _ h2
  subst h1 h2
  refine ⟨A, c, rfl, fun j hj => ?_⟩
  obtain ⟨ad, e1, hl, hc⟩ := hx j hj
  have keep : ∀ (row : Option Nat), w.grownBy w' row → (∀ q, row = some q → ad.block ≠ q) → ∃ ad, A = some ad ∧ ad.block < w'.heap.size ∧ w'.cell? (ad.add j) = some (.string l[j]) := fun row hg hne =>
    ⟨ad, e1, by have := hg.size; omega, by
      rw [← hc]
      exact World.cell?_of_block (by rw [block_add]; exact hg.block _ hl fun e => hne _ e.symm rfl)⟩
  rcases hat with hat | ⟨_, hat⟩
  · by_cases hb : ad.block = g
    · have had := hA ad e1
      rw [hb] at had
      subst had
      refine ⟨⟨g, 0, none⟩, e1, (hown.lt g rfl).2, ?_⟩
      have := own_get hown (g := g) rfl j (by omega)
      rw [Addr.add_lit, Nat.zero_add, this, List.getElem?_append_left (by simpa using hj), List.getElem?_map, List.getElem?_eq_getElem hj]
      rfl
    · exact keep _ hgr fun q e => by rw [hat] at e; obtain rfl : g = q := Option.some.inj e; exact hb
  · exact keep _ hat fun q e => by cases e

structure GrowInv (w : World) (pb po : Nat) (cs : Array Value) (pt : TypeId) (L : Value) (l : List ByteArray) (id : Int) (i : Value) (wr : World) (k : Nat) : Prop where
  le : k ≤ 64
  at_ : i = .int .i64 (k : Int)
  ex : ∃ GA gc, wr.heap[pb]? = some (.cells (cs.setIfInBounds (po + 1) (.slice GA (l.length + k) gc)) pt (0, 0)) ∧ wr.ownsRow 0 9 1 (.slice GA (l.length + k) gc) (l.length + k) (l.map Value.string ++ txts (id + 100000) k) ∧
    (∀ q, (Value.slice GA (l.length + k) gc).ownBlock = some q → L.ownBlock = some q ∨ w.heap.size ≤ q)
  txt : TxtAt wr L l
  ch : Ch (fun q => q = pb ∨ L.ownBlock = some q) w wr
theorem grow_next {w wr wb w5 : World} {pb po k c gc g cap : Nat} {cs : Array Value} {pt : TypeId} {A GA : Option Addr} {l : List ByteArray} {id : Int} {i' : Value} (hi : i' = .int .i64 ((k : Int) + 1)) (hk : k < 64)
    (hpg : wr.heap[pb]? = some (.cells (cs.setIfInBounds (po + 1) (.slice GA (l.length + k) gc)) pt (0, 0))) (hb : Below wr.heap.size wr wb) (htx : TxtAt wr (.slice A l.length c) l) (hch : Ch (fun q => q = pb ∨ (Value.slice A l.length c).ownBlock = some q) w wr)
    (hgb : ∀ q, (Value.slice GA (l.length + k) gc).ownBlock = some q → (Value.slice A l.length c).ownBlock = some q ∨ w.heap.size ≤ q) (hgp : ∀ q, (Value.slice GA (l.length + k) gc).ownBlock = some q → pb = q → False)
    (hA : ∀ ad, A = some ad → ad = ⟨ad.block, 0, none⟩) (hne : ∀ q, (Value.slice A l.length c).ownBlock = some q → q ≠ pb)
    (hown : w5.ownsRow 0 9 1 (.slice (some ⟨g, 0, none⟩) (l.length + k + 1) cap) (l.length + k + 1) ((l.map Value.string ++ txts (id + 100000) k) ++ [.string (textF (id + 100000) (k : Int))]))
    (hgr : wb.grownBy w5 (Value.slice GA (l.length + k) gc).ownBlock) (hat : (Value.slice GA (l.length + k) gc).ownBlock = some g ∨ (g = wb.heap.size ∧ wb.grownBy w5 none)) :
    GrowInv w pb po cs pt (.slice A l.length c) l id i' (w5.setCell ⟨pb, po + 1, none⟩ (.slice (some ⟨g, 0, none⟩) (l.length + k + 1) cap)) (k + 1) := by
  have hpl := heap_lt hpg
  have hsz := hch.size
  have hbs := hb.size
  have hgpb : g ≠ pb := fun e => by
    rcases hat with h | ⟨h, _⟩
    · exact hgp g h e.symm
    · omega
  have hpg5 : w5.heap[pb]? = some (.cells (cs.setIfInBounds (po + 1) (.slice GA (l.length + k) gc)) pt (0, 0)) := (hgr.block pb (by omega) fun e => hgp _ e.symm rfl).trans ((hb.block pb hpl).trans hpg)
  have hset := Below.heap_setCell w5 ⟨pb, po + 1, none⟩ (.slice (some ⟨g, 0, none⟩) (l.length + k + 1) cap)
  have hown2 := ownsRow_keep (w' := w5.setCell ⟨pb, po + 1, none⟩ (.slice (some ⟨g, 0, none⟩) (l.length + k + 1) cap)) hown fun q e => hset q (by
    obtain rfl : g = q := Option.some.inj e
    exact hgpb)
  have htx5 := txt_stays (m := k + 1) (ys := txts (id + 100000) k ++ [.string (textF (id + 100000) (k : Int))]) (htx.keep hb) (by rw [← List.append_assoc]; exact hown) hgr hat hA
  refine ⟨hk, hi, ⟨some ⟨g, 0, none⟩, cap, ?_, ?_, ?_⟩, ?_, ?_⟩
  · rw [heap_setCell_same hpg5, Array.setIfInBounds_setIfInBounds]
    rfl
  · rw [txts_succ, ← List.append_assoc]
    exact hown2
  · intro q e
    obtain rfl : g = q := Option.some.inj e
    rcases hat with h | ⟨h, _⟩
    · exact hgb g h
    · exact .inr (by omega)
  · obtain ⟨A', c', hf, hx⟩ := htx5
    injection hf with h1 _ h2
    subst h1 h2
    refine ⟨A, c, rfl, fun j hj => ?_⟩
    obtain ⟨ad, e1, hl, hc⟩ := hx j hj
    refine ⟨ad, e1, by rw [World.size_setCell]; exact hl, ?_⟩
    rw [← hc]
    refine World.cell?_of_block ?_
    rw [block_add]
    refine hset _ (hne _ ?_)
    rw [e1]
    rfl
  · refine ((hch.below hb).grown hgr fun q e => ?_).setCell (p := ⟨pb, po + 1, none⟩) (.inl (.inl rfl)) _
    rcases hgb q e with h | h
    · exact .inl (.inr h)
    · exact .inr h
set_option maxRecDepth 100000 in
set_option maxHeartbeats 4000000 in
theorem grow_any {w : World} {pb po c : Nat} {cs : Array Value} {pt : TypeId} {A : Option Addr} {id : Int} {l : List ByteArray} {G0 : Value} (hp : w.heap[pb]? = some (.cells cs pt (0, 0)))
    (h0 : cs[po]? = some (.slice A l.length c)) (h1 : cs[po + 1]? = some G0) (h3 : cs[po + 3]? = some (.int .i64 id)) (hown : w.ownsRow 0 9 1 (.slice A l.length c) l.length (l.map Value.string))
    (hne : ∀ q, (Value.slice A l.length c).ownBlock = some q → q ≠ pb) (hn : l.length ≤ 1048576) (hid : 0 ≤ id ∧ id ≤ 1048576) (hpow : ∀ W, Ch (fun q => q = pb ∨ (Value.slice A l.length c).ownBlock = some q) w W → Pow W) :
    Calls Tryz.prog 31 #[.pointer (some ⟨pb, po, none⟩)] w fun e w' => e = .returned (.tuple #[]) ∧ ∃ g cap, w'.heap[pb]? = some (.cells (cs.setIfInBounds (po + 1) (.slice (some ⟨g, 0, none⟩) (l.length + 64) cap)) pt (0, 0)) ∧
      w'.ownsRow 0 9 1 (.slice (some ⟨g, 0, none⟩) (l.length + 64) cap) (l.length + 64) (l.map Value.string ++ txts (id + 100000) 64) ∧ ((Value.slice A l.length c).ownBlock = some g ∨ w.heap.size ≤ g) ∧
      TxtAt w' (.slice A l.length c) l ∧ Ch (fun q => q = pb ∨ (Value.slice A l.length c).ownBlock = some q) w w' := by
  obtain ⟨is, his, his0, his1, his2⟩ := info_parts info_str
  have hA : ∀ ad, A = some ad → ad = ⟨ad.block, 0, none⟩ := fun ad e => by
    rcases hown.2 with ⟨hv, _⟩ | ⟨g, cap, cur, hv, _⟩
    · rw [e] at hv; cases hv
    · rw [e] at hv; injection hv with h _ _; injection h with h; rw [h]
  have hpl := heap_lt hp
  have p0 : w.cell? ⟨pb, po, none⟩ = some (.slice A l.length c) := by rw [cell_of_blk hp]; exact h0
  have p1 : w.cell? ⟨pb, po + 1, none⟩ = some G0 := by rw [cell_of_blk hp]; exact h1
  have f1 := frozen_blk hp (po + 1)
  have HI := Lib.hid (show GrowInv w pb po cs pt (.slice A l.length c) l id (.int .i64 0) (w.setCell ⟨pb, po + 1, none⟩ (.slice A l.length c)) 0 from
    ⟨Nat.zero_le _, rfl, ⟨A, c, heap_setCell_same (i := po + 1) hp _, by
      have := ownsRow_keep (w' := w.setCell ⟨pb, po + 1, none⟩ (.slice A l.length c)) hown fun q e => Below.heap_setCell _ _ _ _ (hne q e)
      simpa [txts, marksL] using this, fun q e => .inl e⟩, TxtAt.own (ownsRow_keep (w' := w.setCell ⟨pb, po + 1, none⟩ (.slice A l.length c)) hown fun q e => Below.heap_setCell _ _ _ _ (hne q e)),
      (Ch.refl _ w).setCell (p := ⟨pb, po + 1, none⟩) (.inl (.inl rfl)) _⟩)
  have HC := Lib.hid (And.intro h1 h3)
  have HNE := Lib.hid hne
  have HPOW := Lib.hid hpow
  have HA := Lib.hid hA
  clear hp h0 h1 h3 hown hne hpow hA
  go_enter Tryz.func31, Tryz.ntmps31
  go_wp2
  clear p0 p1 f1
  go_loopw [2] (fun i wr => ∃ k : Nat, GrowInv w pb po cs pt (.slice A l.length c) l id i wr k) (fun i _ => 64 - (intOf i).toNat)
  case atStart => exact ⟨0, HI.out⟩
  case round =>
    obtain ⟨k, hk, rfl, ⟨GA, gc, hpg, hrow, hgb⟩, htx, hch⟩ := hrel
    by_cases hlt : k < 64
    · have hblr : pb < wr.drew.heap.size := heap_lt hpg
      have hcell : ∀ W : World, W.heap[pb]? = wr.heap[pb]? → W.cell? ⟨pb, po + 1, none⟩ = some (.slice GA (l.length + k) gc) ∧ W.cell? ⟨pb, po + 3, none⟩ = some (.int .i64 id) := fun W hW => by
        rw [cell_of_blk (hW.trans hpg), cell_of_blk (hW.trans hpg)]
        refine ⟨?_, ?_⟩
        · rw [Array.getElem?_setIfInBounds, if_pos rfl, if_pos (Array.getElem?_eq_some_iff.1 HC.out.1).1]
        · rw [Array.getElem?_setIfInBounds, if_neg (by omega)]
          exact HC.out.2
      have HSP := Lib.hid hcell
      have HS := Lib.hid (fun W (hb : Below wr.drew.heap.size wr.drew W) => hcell W (hb.block pb hblr))
      have HOWN := Lib.hid (fun W (hb : Below wr.drew.heap.size wr.drew W) => ownsRow_keep (w' := W) hrow fun q e => hb.block q (hrow.lt q e).2)
      have HGP := Lib.hid (show ∀ q, (Value.slice GA (l.length + k) gc).ownBlock = some q → pb = q → False from fun q e e2 => by
        rcases hgb q e with h | h
        · exact HNE.out q h e2.symm
        · omega)
      have HPG := Lib.hid hpg
      have HTX := Lib.hid htx
      have HCH := Lib.hid hch
      have HGB := Lib.hid hgb
      have hbh := behind_any wr.drew id hid
      have hmk := markTexts_any wr.drew (HPOW.out wr.drew hch.drew) (id + 100000) (k : Int) ⟨by omega, by omega⟩ ⟨by omega, by omega⟩
      have hHeld := HS.out wr.drew (Below.refl _ _)
      have hmu : 64 - ((k : Int) + 1).toNat < 64 - k := by omega
      have hwk : wrap64 ((k : Int) + 1) = (k : Int) + 1 := by unfold wrap64; omega
      have HR63 := Lib.hid (room63 (k := k) hn hlt)
      have HR47 := Lib.hid (room47 (k := k) hn hlt)
      clear hrow hcell hch hpg htx hgb hn
      go_wp2
      refine wp_region_n (n := 16) (S := fun w' => w'.cell? ⟨pb, po + 1, none⟩ = some (.slice GA (l.length + k) gc) ∧ w'.cell? ⟨pb, po + 3, none⟩ = some (.int .i64 id)) (by kernel_rfl) ?_
      refine wpAnyN_take (i := 0) (v := ?_) rfl (by kernel_rfl) (by kernel_rfl) (by kernel_rfl) (by kernel_rfl) (fun _ _ _ h => h) (Or.inl ⟨by kernel_rfl, ?y12⟩) hHeld ?_
      case y12 =>
        intro w0 hSw
        (try dsimp only at hSw)
        go_simp
        try with_reducible rfl
      try simp only [Act.put, qa7, qb7, qc7, qd7, qe7, qf7]
      refine wpAnyN_take (i := 1) (v := ?_) rfl (by kernel_rfl) (by kernel_rfl) (by kernel_rfl) (by kernel_rfl) (fun _ _ _ h => h) (Or.inl ⟨by kernel_rfl, ?y13⟩) hHeld ?_
      case y13 =>
        intro w0 hSw
        (try dsimp only at hSw)
        go_simp
        try with_reducible rfl
      try simp only [Act.put, qa7, qb7, qc7, qd7, qe7, qf7]
      refine wpAnyN_take (i := 2) (v := ?_) rfl (by kernel_rfl) (by kernel_rfl) (by kernel_rfl) (by kernel_rfl) (fun _ _ _ h => h) (Or.inl ⟨by kernel_rfl, ?y14⟩) hHeld ?_
      case y14 =>
        intro w0 hSw
        (try dsimp only at hSw)
        go_simp
        try with_reducible rfl
      try simp only [Act.put, qa7, qb7, qc7, qd7, qe7, qf7]
      refine wpAnyN_take (i := 3) (v := ?_) rfl (by kernel_rfl) (by kernel_rfl) (by kernel_rfl) (by kernel_rfl) (fun _ _ _ h => h) (Or.inl ⟨by kernel_rfl, ?y15⟩) hHeld ?_
      case y15 =>
        intro w0 hSw
        (try dsimp only at hSw)
        go_simp
        try with_reducible rfl
      try simp only [Act.put, qa7, qb7, qc7, qd7, qe7, qf7]
      refine wpAnyN_take (i := 4) (v := ?_) rfl (by kernel_rfl) (by kernel_rfl) (by kernel_rfl) (by kernel_rfl) (fun _ _ _ h => h) (Or.inl ⟨by kernel_rfl, ?y16⟩) hHeld ?_
      case y16 =>
        intro w0 hSw
        (try dsimp only at hSw)
        go_simp
        try with_reducible rfl
      try simp only [Act.put, qa7, qb7, qc7, qd7, qe7, qf7]
      refine wpAnyN_take (i := 5) (v := ?_) rfl (by kernel_rfl) (by kernel_rfl) (by kernel_rfl) (by kernel_rfl) (fun _ _ _ h => h) (Or.inl ⟨by kernel_rfl, ?y17⟩) hHeld ?_
      case y17 =>
        intro w0 hSw
        (try dsimp only at hSw)
        go_simp
        try with_reducible rfl
      try simp only [Act.put, qa7, qb7, qc7, qd7, qe7, qf7]
      refine wpAnyN_take (i := 6) (v := ?_) rfl (by kernel_rfl) (by kernel_rfl) (by kernel_rfl) (by kernel_rfl) (fun _ _ _ h => h) (Or.inl ⟨by kernel_rfl, ?y18⟩) hHeld ?_
      case y18 =>
        intro w0 hSw
        (try dsimp only at hSw)
        go_simp
        try with_reducible rfl
      try simp only [Act.put, qa7, qb7, qc7, qd7, qe7, qf7]
      refine wpAnyN_take (i := 7) (v := ?_) rfl (by kernel_rfl) (by kernel_rfl) (by kernel_rfl) (by kernel_rfl) (fun _ _ _ h => h) (Or.inl ⟨by kernel_rfl, ?y19⟩) hHeld ?_
      case y19 =>
        intro w0 hSw
        (try dsimp only at hSw)
        go_simp
        try with_reducible rfl
      try simp only [Act.put, qa7, qb7, qc7, qd7, qe7, qf7]
      refine wpAnyN_take (i := 8) (v := ?_) rfl (by kernel_rfl) (by kernel_rfl) (by kernel_rfl) (by kernel_rfl) (fun _ _ _ h => h) (Or.inl ⟨by kernel_rfl, ?y20⟩) hHeld ?_
      case y20 =>
        intro w0 hSw
        (try dsimp only at hSw)
        go_simp
        try with_reducible rfl
      try simp only [Act.put, qa7, qb7, qc7, qd7, qe7, qf7]
      refine wpAnyN_take (i := 10) (v := ?_) rfl (by kernel_rfl) (by kernel_rfl) (by kernel_rfl) (by kernel_rfl) (fun _ _ _ h => h) (Or.inl ⟨by kernel_rfl, ?y21⟩) hHeld ?_
      case y21 =>
        intro w0 hSw
        (try dsimp only at hSw)
        go_simp
        try with_reducible rfl
      try simp only [Act.put, qa7, qb7, qc7, qd7, qe7, qf7]
      refine wpAnyN_step (i := 9) (by kernel_rfl) rfl (fun K hK => ?_)
      go_simp
      go_at_call 87
      refine (hbh).mono ?_
      rintro en wn ⟨rfl, hwn⟩
      have hwn := hwn.symm
      subst hwn
      clear hbh
      go_wp2_with fail
      refine hK.out _ _ (fun _ => hHeld) ?_
      clear hK K
      try simp only [Act.put, qa7, qb7, qc7, qd7, qe7, qf7]
      refine wpAnyN_step (i := 11) (by kernel_rfl) rfl (fun K hK => ?_)
      go_simp
      go_at_call 86
      refine (hmk).mono ?_
      rintro en wx ⟨rfl, hbx⟩
      have hHeld := HS.out wx hbx
      clear hmk
      go_wp2_with fail
      refine hK.out _ _ (fun _ => hHeld) ?_
      clear hK K
      try simp only [Act.put, qa7, qb7, qc7, qd7, qe7, qf7]
      refine wpAnyN_step (i := 12) (by kernel_rfl) rfl (fun K hK => ?_)
      go_simp
      have hbw := hbx.alloc hbx.size (.cells #[.string (textF (id + 100000) k)] 9)
      refine hK.out _ _ (fun _ => HS.out _ hbw) ?_
      clear hK K
      try simp only [Act.put, qa7, qb7, qc7, qd7, qe7, qf7]
      refine wpAnyN_step (i := 13) (by kernel_rfl) rfl (fun K hK => ?_)
      refine step_append_keeps rfl _ _ 50 rfl 0 9 is (.string ByteArray.empty) 1 16 Tryz.underlying50 his his0 his1 his2 rfl (by decide) (.slice GA (l.length + k) gc) (l.length + k) _ (by simp [Act.eval, Act.put]) (HOWN.out _ hbw) ⟨wx.heap.size, 0, none⟩ 1 1 [.string (textF (id + 100000) k)] (by simp [Act.eval, Act.put]) rfl (World.news_of_block (World.alloc_heap_new wx _)) (by simp [Value.oneCell']) (by decide) HR63.out HR47.out (Nat.zero_le _) ?_
      intro g cap w5 hown5 hgrow5 hat5
      have hpg5 := hgrow5.block pb (by have := hbw.size; exact Nat.lt_of_lt_of_le hblr this) (fun e => HGP.out _ e.symm rfl)
      have hHeld5 := HSP.out w5 (hpg5.trans (hbw.block pb hblr))
      refine hK.out _ _ (fun _ => hHeld5) ?_
      clear hK K
      try simp only [Act.put, qa7, qb7, qc7, qd7, qe7, qf7]
      have hHeld := hHeld5
      refine wpAnyN_step (i := 14) (by kernel_rfl) rfl (fun K hK => ?_)
      go_simp
      refine hK.out _ _ (fun _ => hHeld) ?_
      clear hK K
      try simp only [Act.put, qa7, qb7, qc7, qd7, qe7, qf7]
      refine wpAnyN_step (i := 15) (by kernel_rfl) rfl (fun K hK => ?_)
      go_simp
      refine hK.out _ _ (fun _ => hHeld) ?_
      clear hK K
      try simp only [Act.put, qa7, qb7, qc7, qd7, qe7, qf7]
      refine wpAnyN_step (i := 16) (by kernel_rfl) rfl (fun K hK => ?_)
      have f5 := frozen_blk (hpg5.trans ((hbw.block pb hblr).trans HPG.out)) (po + 1)
      go_simp
      refine hK.out _ _ (fun h => absurd h (by decide)) ?_
      clear hK K
      try simp only [Act.put, qa7, qb7, qc7, qd7, qe7, qf7]
      refine wpAnyN_done (by kernel_rfl) ?_ _
      have HG := Lib.hid (grow_next (i' := .int .i64 ((k : Int) + 1)) rfl hlt HPG.out ⟨hbw.os, hbw.tape, hbw.output, hbw.size, hbw.block⟩ HTX.out HCH.out HGB.out HGP.out HA.out HNE.out hown5 hgrow5 hat5)
      clear hown5 hgrow5 hat5 hHeld
      go_wp2
      go_roundw
      case rel => exact ⟨k + 1, by as_aux_lemma => exact HG.out⟩
      case measure => simpa [intOf] using hmu
    · obtain rfl : k = 64 := by omega
      have hGA : ∃ g, GA = some ⟨g, 0, none⟩ := by
        rcases hrow.2 with ⟨hv, h0⟩ | ⟨g, cap, cur, hv, _⟩
        · omega
        · injection hv with e1 _ _; exact ⟨g, e1⟩
      obtain ⟨g, rfl⟩ := hGA
      have HF := Lib.hid (And.intro hpg (And.intro hrow (And.intro (hgb g rfl) (And.intro htx hch))))
      clear hpg hrow hgb htx hch
      go_wp2
      go_end0
      exact ⟨rfl, g, gc, HF.out.1, HF.out.2.1, HF.out.2.2.1, HF.out.2.2.2.1, HF.out.2.2.2.2⟩
end Go.Proofs.YtplocldnklccfaaGreatDoor
