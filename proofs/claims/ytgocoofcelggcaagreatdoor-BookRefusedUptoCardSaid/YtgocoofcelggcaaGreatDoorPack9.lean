/- Drawn regions whose last operations overwrite what the first ones load: S is asked behind the operations ahead of n alone; An allotment taken; Copies of slices; An entry taken; post: the walk; isOpen, and what mayClose asks of each claim; slices.ContainsFunc at what mayClose asks. -/
import Derived.Deep.RegionHeld3
import Derived.StillTail
import Derived.Test.YtgocoofcelggcaaGreatDoorPack8
import Derived.Lib.SliceRun
namespace Go.Proofs.YtgocoofcelggcaaGreatDoor
theorem qa9 {T : Type} (l : List T) (i : Nat) (a : T) : l.toArray.setIfInBounds i a = (l.set i a).toArray := List.setIfInBounds_toArray l i a
theorem qb9 {T : Type} {x : T} {xs : List T} {a : T} : (x :: xs).set 0 a = a :: xs := List.set_cons_zero
theorem qc9 {T : Type} {x : T} {xs : List T} {i : Nat} {a : T} : (x :: xs).set (i + 1) a = x :: xs.set i a := List.set_cons_succ
theorem qd9 {T : Type} {xs : List T} {i : Nat} (h : i < xs.toArray.size) : xs.toArray[i] = xs[i]'(by simpa using h) := List.getElem_toArray h
theorem qe9 {T : Type} (a : T) (ys : List T) (i : Nat) (h : i + 1 < (a :: ys).length) : (a :: ys)[i + 1] = ys[i]'(by simpa using h) := List.getElem_cons_succ a ys i h
theorem qf9 {T : Type} (a : T) (ys : List T) (h : 0 < (a :: ys).length) : (a :: ys)[0] = a := List.getElem_cons_zero a ys h
set_option linter.unusedVariables false

section
variable {P : Program} {ops : Array Oper} {Q : Exit → Act → World → Prop} {md : Region.Mode} {S : World → Prop} {n : Nat}

/-- Whatever order is picked from here on; S holds behind each operation ahead of n. -/
def wpAnyN (P : Program) (md : Region.Mode) (ops : Array Oper) (Q : Exit → Act → World → Prop) (S : World → Prop) (n : Nat) : Nat → Array Bool → Act → World → Prop
  | 0, listed, a, w => Region.ready md ops listed = [] ∧ Q .normal a w
  | fuel + 1, listed, a, w =>
    (Region.ready md ops listed = [] → Q .normal a w) ∧
    ∀ i ∈ Region.ready md ops listed, wpOp P ops Q i (fun a' w' => (i < n → S w') ∧ wpAnyN P md ops Q S n fuel (listed.setIfInBounds i true) a' w') a w

theorem wpAny_of_n : ∀ (fuel : Nat) (listed : Array Bool) (a : Act) (w : World), wpAnyN P md ops Q S n fuel listed a w → wpAny P md ops Q fuel listed a w
  | 0, _, _, _, h => h
  | fuel + 1, _, _, _, h => ⟨h.1, fun i hi => wpOp_mono (fun a' w' h' => wpAny_of_n fuel _ a' w' h'.2) (h.2 i hi)⟩

/-- Two that may come up do not wait for each other. -/
theorem no_wait {listed : Array Bool} {i j : Nat} {oj : Oper} (hi : i ∈ Region.ready md ops listed) (hj : j ∈ Region.ready md ops listed) (ho : ops[j]? = some oj) {d : _} (hd : d ∈ oj.after) (hb : Region.binds md d = true) : d.on ≠ i := by
  obtain ⟨_, o2, ho2, hall⟩ := mem_ready.1 hj
  rw [ho] at ho2
  cases ho2
  have hdone := hall d hd hb
  have hopen := (mem_ready.1 hi).1
  intro heq
  subst heq
  by_cases hl : d.on < listed.size
  · simp [hl] at hdone hopen
    simp [hopen] at hdone
  · simp [Array.getElem?_eq_none (Nat.le_of_not_lt hl)] at hdone

/-- Number i, oi, may go ahead of all that are still to come: what does not wait for it is apart from it. -/
structure Early (md : Region.Mode) (ops : Array Oper) (i : Nat) (oi : Oper) (listed : Array Bool) : Prop where
  apart : ∀ j oj, ops[j]? = some oj → j ≠ i → listed.getD j true = false → (∀ d ∈ oj.after, Region.binds md d = true → d.on ≠ i) → oi.apart ops oj = true
theorem Early.mark {i : Nat} {oi : Oper} {listed : Array Bool} (h : Early md ops i oi listed) {j : Nat} (hj : listed.getD j true = false) : Early md ops i oi (listed.setIfInBounds j true) :=
  ⟨fun k ok hk hne hun hno => h.apart k ok hk hne (if e : j = k then e ▸ hj else getD_set_ne true e ▸ hun) hno⟩

/-- It is taken first, where it yields its value in every world that meets S, and all from n on wait for it. -/
theorem early_first {i : Nat} {oi : Oper} {v : Value} (hi : ops[i]? = some oi) (hsel : ∀ (j : Nat) (o : Oper) cs b, ops[j]? = some o → o.op ≠ .select cs b)
    (hQ : ∀ c a w, Q (.panic c) (a.put oi.dst v) w → Q (.panic c) a w) (hsink : ∀ j oj, ops[j]? = some oj → n ≤ j → j ≠ i → ∃ d ∈ oj.after, Region.binds md d = true ∧ d.on = i)
    (fuel : Nat) (listed : Array Bool) (a : Act) (w : World) (he : Early md ops i oi listed) (hr : i ∈ Region.ready md ops listed) (hy : YieldsIf P ops S oi v a) (hS : S w)
    (H : wpAnyN P md ops Q S n fuel (listed.setIfInBounds i true) (a.put oi.dst v) w) : wpAnyN P md ops Q S n (fuel + 1) listed a w := by
  constructor
  · intro h0
    rw [h0] at hr
    cases hr
  intro j hj
  by_cases hji : j = i
  · subst hji
    exact hy.wpOp hi hS ⟨fun _ => hS, H⟩
  have hjr := ready_mono hj hji
  match fuel, H with
  | 0, H =>
    rw [H.1] at hjr
    cases hjr
  | fuel + 1, H =>
    obtain ⟨hjun, oj, hoj, _⟩ := mem_ready.1 hj
    have hjn : j < n := Nat.lt_of_not_le fun hle => by
      obtain ⟨d, hd, hb, heq⟩ := hsink j oj hoj hle hji
      exact no_wait hr hj hoj hd hb heq
    refine wpOp_mono ?_ (wpOp_putIf hoj (he.apart j oj hoj hji hjun fun d hd hb => no_wait hr hj hoj hd hb) (fun cs b => hsel i oi cs b hi) (fun cs b => hsel j oj cs b hoj) hQ hy (H.2 j hjr))
    intro a' w' h3
    obtain ⟨hy', hS', hrest⟩ := h3
    refine ⟨hS', early_first hi hsel hQ hsink fuel _ a' w' (he.mark hjun) (ready_mono hr (Ne.symm hji)) hy' (hS' hjn) ?_⟩
    rw [Array.setIfInBounds_comm _ _ hji]
    exact hrest

/-- Do all from n on wait for i? -/
def sinkN (md : Region.Mode) (ops : Array Oper) (n i : Nat) : Bool := (List.range ops.size).all fun j => decide (j < n) || decide (j = i) || Region.waitsFor md ops j i
theorem sinkN_spec {i : Nat} (h : sinkN md ops n i = true) : ∀ j oj, ops[j]? = some oj → n ≤ j → j ≠ i → ∃ e ∈ oj.after, Region.binds md e = true ∧ e.on = i := by
  intro j oj hj hn hne
  have hlt : j < ops.size := (Array.getElem?_eq_some_iff.1 hj).1
  have h1 := List.all_eq_true.1 h j (List.mem_range.2 hlt)
  simp only [Bool.or_eq_true, decide_eq_true_eq] at h1
  rcases h1 with (h1 | h1) | h1
  · omega
  · exact absurd h1 hne
  · obtain ⟨o', ho', e, he, hb, heq⟩ := Region.waitsFor_spec h1
    rw [hj] at ho'
    cases ho'
    exact ⟨e, he, hb, heq⟩

theorem wpAnyN_take {i : Nat} {oi : Oper} {v : Value} {fuel : Nat} {listed : Array Bool} {a : Act} {w : World} (hi : ops[i]? = some oi)
    (hs : Region.noSelect ops = true) (hf : Region.free md ops listed i = true) (hr : (Region.ready md ops listed).contains i = true) (hk : sinkN md ops n i = true)
    (hQ : ∀ c a w, Q (.panic c) (a.put oi.dst v) w → Q (.panic c) a w) (hy : YieldsIf P ops S oi v a) (hS : S w)
    (h : wpAnyN P md ops Q S n fuel (listed.setIfInBounds i true) (a.put oi.dst v) w) : wpAnyN P md ops Q S n (fuel + 1) listed a w :=
  early_first hi (Region.noSelect_spec hs) hQ (sinkN_spec hk) fuel listed a w ⟨Region.free_spec hi hf⟩ (by simpa using hr) hy hS h
/-- One alone may come up. -/
theorem wpAnyN_one {i : Nat} {fuel : Nat} {listed : Array Bool} {a : Act} {w : World} (hr : Region.ready md ops listed = [i])
    (h : wpOp P ops Q i (fun a' w' => (i < n → S w') ∧ wpAnyN P md ops Q S n fuel (listed.setIfInBounds i true) a' w') a w) : wpAnyN P md ops Q S n (fuel + 1) listed a w :=
  ⟨fun h0 => (by rw [hr] at h0; cases h0), fun j hj => by
    rw [hr] at hj
    have : j = i := by simpa using hj
    subst this
    exact h⟩
/-- One alone may come up: run it. -/
theorem wpAnyN_step {i : Nat} {o : Oper} {fuel : Nat} {listed : Array Bool} {a : Act} {w : World} (hr : Region.ready md ops listed = [i]) (ho : ops[i]? = some o)
    (h : ∀ K' : Act → World → Prop, Shut (∀ a w, (i < n → S w) → wpAnyN P md ops Q S n fuel (listed.setIfInBounds i true) a w → K' a w) → if Region.wanted o (yielded ops a.tmps) = true then Oper.wp P o a w K' Q else K' (a.put o.dst undef) w) :
    wpAnyN P md ops Q S n (fuel + 1) listed a w :=
  wpAnyN_one hr (wpOp_step ho fun K' hK => h K' fun a w h1 h2 => hK a w ⟨h1, h2⟩)
theorem wpAnyN_done {listed : Array Bool} {a : Act} {w : World} (hr : Region.ready md ops listed = []) (h : Q .normal a w) : ∀ fuel, wpAnyN P md ops Q S n fuel listed a w
  | 0 => ⟨hr, h⟩
  | _ + 1 => ⟨fun _ => h, by rw [hr]; simp⟩
theorem wp_region_n {id : Nat} {a : Act} {w : World} (hm : P.follows .mixedOrders = true)
    (h : wpAnyN P .any ops Q S n ops.size (Array.replicate ops.size false) a w.drew) : (Code.region id ops true).wp P Q a w :=
  wp_region_any hm (wpAny_of_n _ _ _ _ h)
end
end Go.Proofs.YtgocoofcelggcaaGreatDoor
namespace Go.Proofs.YtgocoofcelggcaaGreatDoor
open Go.RowKit
set_option linter.unusedVariables false
set_option linter.unusedSimpArgs false

theorem info_allot : (Tryz.prog.info? 87).map (fun i => (i.zero, i.size, i.bytes)) = some (some (.agg #[.string ByteArray.empty, .string ByteArray.empty, .int .i64 0, .int .i64 0]), 4, 48) := by kernel_rfl

/-- One allotment more. -/
theorem BookP.allotAdd {w w1 : World} {ρ : Nat → Nat} {bb : Nat} {S : BookS} {p : Pl} (h : BookP w ρ bb S p) (a : AllotV) {g cap : Nat}
    (hown : w1.ownsRow 0 87 4 (.slice (some ⟨g, 0, none⟩) (S.allots.length + 1) cap) (S.allots.length + 1) ((S.allots.map encAllot).flatten ++ encAllot a))
    (hbk : ∀ k, k < w.heap.size → p.aV.ownBlock ≠ some k → w1.heap[k]? = w.heap[k]?) (hg : ρ g = 14 ∨ w.heap.size ≤ g) (hs0 : w.heap.size ≤ w1.heap.size) (hgl : g < w1.heap.size) :
    BookP (w1.setCell ⟨bb, 11, none⟩ (.slice (some ⟨g, 0, none⟩) (S.allots.length + 1) cap)) (putR ρ g 14) bb { S with allots := S.allots ++ [a] } { p with aV := .slice (some ⟨g, 0, none⟩) (S.allots.length + 1) cap } := by
  have hkb := h.allots.role
  have hrb := h.rH
  have hbl := heap_lt h.head
  have hgb : bb ≠ g := fun e => by subst e; rcases hg with hg | hg <;> omega
  have hne : ∀ k, k ≠ bb → (w1.setCell ⟨bb, 11, none⟩ (.slice (some ⟨g, 0, none⟩) (S.allots.length + 1) cap)).heap[k]? = w1.heap[k]? := fun k hk => Below.heap_setCell _ _ _ _ hk
  have hsz : (w1.setCell ⟨bb, 11, none⟩ (.slice (some ⟨g, 0, none⟩) (S.allots.length + 1) cap)).heap.size = w1.heap.size := by simp [World.setCell]
  have hhd := heap_setCell_same (i := 11) ((hbk bb hbl fun e => by have := hkb bb e; omega).trans h.head) (.slice (some ⟨g, 0, none⟩) (S.allots.length + 1) cap)
  generalize w1.setCell ⟨bb, 11, none⟩ (.slice (some ⟨g, 0, none⟩) (S.allots.length + 1) cap) = W at *
  have hs : w.heap.size ≤ W.heap.size := by omega
  have hS : ∀ r, r ≠ 1 ∧ r ≠ 14 → SameR ρ (putR ρ g 14) w W r := fun r ⟨h1, h14⟩ => SameR.put (fun e => h14 e.symm) hg fun k hl he =>
    (hne k fun e => by rw [e] at he; omega).trans (hbk k hl fun e => by have := hkb k e; omega)
  have hlt := putR_lt (n := 14) h.lt hs (by omega : g < W.heap.size)
  exact {
    head := hhd
    rH := by rw [putR_ne _ hgb]; exact h.rH
    chart := chart_keep h.chart (hS 2 (by decide)) hs
    keys := h.keys.keep (hS 3 (by decide))
    known := h.known.keep (hS 4 (by decide))
    rows := h.rows.keep (hS 5 (by decide))
    own := h.own.keep (hS 6 (by decide))
    last := h.last.keep (hS 7 (by decide))
    entries := h.entries.keep (hS 8 (by decide))
    lines := lines_keep h.lines (hS 9 (by decide))
    entry := h.entry.keep (hS 10 (by decide))
    claims := h.claims.keep (hS 11 (by decide))
    order := h.order.keep (hS 12 (by decide))
    claim := claim_keep h.claim (hS 13 (by decide))
    inj := h.inj
    allots := ⟨by
      have h1 := ownsRow_keep hown (w' := W) fun k e => by cases e; exact hne _ fun e => hgb e.symm
      show World.ownsRow _ _ _ _ _ (S.allots ++ [a]).length ((S.allots ++ [a]).map encAllot).flatten
      rw [List.length_append, List.length_singleton, List.map_append, List.flatten_append]
      simpa using h1, fun k e => by cases e; exact putR_eq _ _ _⟩
    lt := hlt }

section
variable {w : World} {F : Nat → Prop} {bb eb : Nat} {S : BookS} {e : EventV} {lv : Value}

theorem allot_new (W : World) (a : AllotV) (t : TypeId) : ∀ j u, (encAllot a)[j]? = some u → (W.alloc (.cells (encAllot a).toArray t)).cell? ((⟨W.heap.size, 0, none⟩ : Addr).add j) = some u := by
  intro j u hu
  rw [Addr.add_lit, cell_of_blk (World.alloc_heap_new W _)]
  simpa using hu
theorem allot_one (a : AllotV) : ∀ u ∈ encAllot a, u.oneCell' = true := by
  intro u hu
  unfold encAllot at hu
  simp at hu
  rcases hu with rfl | rfl | rfl | rfl <;> rfl

set_option maxRecDepth 100000 in
set_option maxHeartbeats 4000000 in
theorem allot_any (h : BookAt w F bb S) (hE : EvAt w eb e lv) (hne : ¬ F eb) (hlen : S.allots.length ≤ 1000) (i j : Nat) (hi : i < S.claims.length) (hj : j < S.claims.length) (hij : i ≠ j)
    (hix : (S.claims.findIdx? fun x => decide (x.key = e.ref)) = some i) (hjx : (S.claims.findIdx? fun x => decide (x.key = e.ref2)) = some j)
    (hai : 0 ≤ S.claims[i].used ∧ S.claims[i].used + e.amount ≤ maxA) (haj : 0 ≤ S.claims[j].used ∧ S.claims[j].used + e.amount ≤ maxA) (ham : 0 ≤ e.amount) :
    Calls Tryz.prog 73 #[ptrV bb, ptrV eb] w (BookPost F bb { S with claims := useL e.ref2 e.amount (useL e.ref e.amount S.claims), allots := S.allots ++ [⟨e.ref, e.ref2, e.day, e.amount⟩] } (.tuple #[]) w) := by
  obtain ⟨i0, hi0, hz0, hz1, hz2⟩ := info_parts info_allot
  obtain ⟨ρ, p, h, hF⟩ := h
  have hbl := heap_lt h.head
  have c11 := h.c11
  have e1 := hE.e1
  have e5 := hE.e5
  have e6 := hE.e6
  have e9 := hE.e9
  have hown := h.allots.own
  have H := Lib.hid h
  have HF := Lib.hid hF
  have HO := Lib.hid hown
  have HEV := Lib.hid hE
  have hkb : ∀ k, p.aV.ownBlock = some k → ρ k = 14 := h.allots.role
  have HKB := Lib.hid hkb
  have hrb := h.rH
  have HNE := Lib.hid hne
  have hel := heap_lt hE.blk
  have HNB := Lib.hid (show eb ≠ bb from fun e' => hne (e' ▸ (hF bb).2 (by omega)))
  have HEB := Lib.hid (show p.aV.ownBlock ≠ some eb from fun e' => hne ((hF eb).2 (by have := hkb eb e'; omega)))
  have HBB := Lib.hid (show p.aV.ownBlock ≠ some bb from fun e' => by have := hkb bb e'; omega)
  have hkeep : ∀ W : World, W.heap[eb]? = w.heap[eb]? → W.cell? ⟨eb, 1, none⟩ = some (.int .i64 e.day) ∧ W.cell? ⟨eb, 5, none⟩ = some (.string e.ref) ∧ W.cell? ⟨eb, 6, none⟩ = some (.string e.ref2) ∧ W.cell? ⟨eb, 9, none⟩ = some (.int .i64 e.amount) := fun W hW =>
    ⟨(World.cell?_of_block hW).trans e1, (World.cell?_of_block hW).trans e5, (World.cell?_of_block hW).trans e6, (World.cell?_of_block hW).trans e9⟩
  have HK := Lib.hid hkeep
  obtain ⟨g1, g5, g6, g9⟩ := hkeep w.drew rfl
  have c11d : w.drew.cell? ⟨bb, 11, none⟩ = some p.aV := c11
  have HOW := Lib.hid (World.ownsRow.alloc (w := w.drew) hown (.cells #[.string e.ref, .string e.ref2, .int .i64 e.day, .int .i64 e.amount] 87))
  have HNEW := Lib.hid (allot_new w.drew ⟨e.ref, e.ref2, e.day, e.amount⟩ 87)
  have HL := Lib.hid (show S.allots.length + 1 ≤ maxLen ∧ (S.allots.length + 1) * 48 ≤ 140737488355328 from ⟨by unfold maxLen; omega, by omega⟩)
  have c11a : ∀ o, (w.drew.alloc o).cell? ⟨bb, 11, none⟩ = some p.aV := fun o => ((bel1 w o).cell (p := ⟨bb, 11, none⟩) hbl).trans c11
  clear hkeep
  have HI := Lib.hid (And.intro hix hjx)
  have HIJ := Lib.hid (And.intro hij (And.intro hi hj))
  have HA := Lib.hid (And.intro hai haj)
  clear h hF hown hE hkb hne hix hjx hij hai haj
  unfold ptrV
  go_enter Tryz.func73, Tryz.ntmps73
  go_wp2
  have hHeld : w.drew.cell? ⟨bb, 11, none⟩ = some p.aV ∧ w.drew.cell? ⟨eb, 1, none⟩ = some (.int .i64 e.day) ∧ w.drew.cell? ⟨eb, 5, none⟩ = some (.string e.ref) ∧ w.drew.cell? ⟨eb, 6, none⟩ = some (.string e.ref2) ∧ w.drew.cell? ⟨eb, 9, none⟩ = some (.int .i64 e.amount) := ⟨c11d, g1, g5, g6, g9⟩
  refine wp_region_n (n := 26) (S := fun w' => w'.cell? ⟨bb, 11, none⟩ = some p.aV ∧ w'.cell? ⟨eb, 1, none⟩ = some (.int .i64 e.day) ∧ w'.cell? ⟨eb, 5, none⟩ = some (.string e.ref) ∧ w'.cell? ⟨eb, 6, none⟩ = some (.string e.ref2) ∧ w'.cell? ⟨eb, 9, none⟩ = some (.int .i64 e.amount)) (by kernel_rfl) ?_
  refine wpAnyN_take (i := 0) (v := ?_) rfl (by kernel_rfl) (by kernel_rfl) (by kernel_rfl) (by kernel_rfl) (fun _ _ _ h => h) (Or.inl ⟨by kernel_rfl, ?y0⟩) hHeld ?_
  case y0 =>
    intro w0 hSw
    (try dsimp only at hSw)
    go_simp
    try with_reducible rfl
  try simp only [Act.put, qa9, qb9, qc9, qd9, qe9, qf9]
  refine wpAnyN_take (i := 1) (v := ?_) rfl (by kernel_rfl) (by kernel_rfl) (by kernel_rfl) (by kernel_rfl) (fun _ _ _ h => h) (Or.inl ⟨by kernel_rfl, ?y1⟩) hHeld ?_
  case y1 =>
    intro w0 hSw
    (try dsimp only at hSw)
    go_simp
    try with_reducible rfl
  try simp only [Act.put, qa9, qb9, qc9, qd9, qe9, qf9]
  refine wpAnyN_take (i := 2) (v := ?_) rfl (by kernel_rfl) (by kernel_rfl) (by kernel_rfl) (by kernel_rfl) (fun _ _ _ h => h) (Or.inl ⟨by kernel_rfl, ?y2⟩) hHeld ?_
  case y2 =>
    intro w0 hSw
    (try dsimp only at hSw)
    go_simp
    try with_reducible rfl
  try simp only [Act.put, qa9, qb9, qc9, qd9, qe9, qf9]
  refine wpAnyN_take (i := 3) (v := ?_) rfl (by kernel_rfl) (by kernel_rfl) (by kernel_rfl) (by kernel_rfl) (fun _ _ _ h => h) (Or.inl ⟨by kernel_rfl, ?y3⟩) hHeld ?_
  case y3 =>
    intro w0 hSw
    (try dsimp only at hSw)
    go_simp
    try with_reducible rfl
  try simp only [Act.put, qa9, qb9, qc9, qd9, qe9, qf9]
  refine wpAnyN_take (i := 4) (v := ?_) rfl (by kernel_rfl) (by kernel_rfl) (by kernel_rfl) (by kernel_rfl) (fun _ _ _ h => h) (Or.inl ⟨by kernel_rfl, ?y4⟩) hHeld ?_
  case y4 =>
    intro w0 hSw
    (try dsimp only at hSw)
    go_simp
    try with_reducible rfl
  try simp only [Act.put, qa9, qb9, qc9, qd9, qe9, qf9]
  refine wpAnyN_take (i := 5) (v := ?_) rfl (by kernel_rfl) (by kernel_rfl) (by kernel_rfl) (by kernel_rfl) (fun _ _ _ h => h) (Or.inl ⟨by kernel_rfl, ?y5⟩) hHeld ?_
  case y5 =>
    intro w0 hSw
    (try dsimp only at hSw)
    go_simp
    try with_reducible rfl
  try simp only [Act.put, qa9, qb9, qc9, qd9, qe9, qf9]
  refine wpAnyN_take (i := 6) (v := ?_) rfl (by kernel_rfl) (by kernel_rfl) (by kernel_rfl) (by kernel_rfl) (fun _ _ _ h => h) (Or.inl ⟨by kernel_rfl, ?y6⟩) hHeld ?_
  case y6 =>
    intro w0 hSw
    (try dsimp only at hSw)
    go_simp
    try with_reducible rfl
  try simp only [Act.put, qa9, qb9, qc9, qd9, qe9, qf9]
  refine wpAnyN_take (i := 7) (v := ?_) rfl (by kernel_rfl) (by kernel_rfl) (by kernel_rfl) (by kernel_rfl) (fun _ _ _ h => h) (Or.inl ⟨by kernel_rfl, ?y7⟩) hHeld ?_
  case y7 =>
    intro w0 hSw
    (try dsimp only at hSw)
    go_simp
    try with_reducible rfl
  try simp only [Act.put, qa9, qb9, qc9, qd9, qe9, qf9]
  refine wpAnyN_take (i := 8) (v := ?_) rfl (by kernel_rfl) (by kernel_rfl) (by kernel_rfl) (by kernel_rfl) (fun _ _ _ h => h) (Or.inl ⟨by kernel_rfl, ?y8⟩) hHeld ?_
  case y8 =>
    intro w0 hSw
    (try dsimp only at hSw)
    go_simp
    try with_reducible rfl
  try simp only [Act.put, qa9, qb9, qc9, qd9, qe9, qf9]
  refine wpAnyN_take (i := 9) (v := ?_) rfl (by kernel_rfl) (by kernel_rfl) (by kernel_rfl) (by kernel_rfl) (fun _ _ _ h => h) (Or.inl ⟨by kernel_rfl, ?y9⟩) hHeld ?_
  case y9 =>
    intro w0 hSw
    (try dsimp only at hSw)
    go_simp
    try with_reducible rfl
  try simp only [Act.put, qa9, qb9, qc9, qd9, qe9, qf9]
  refine wpAnyN_take (i := 10) (v := ?_) rfl (by kernel_rfl) (by kernel_rfl) (by kernel_rfl) (by kernel_rfl) (fun _ _ _ h => h) (Or.inl ⟨by kernel_rfl, ?y10⟩) hHeld ?_
  case y10 =>
    intro w0 hSw
    (try dsimp only at hSw)
    go_simp
    try with_reducible rfl
  try simp only [Act.put, qa9, qb9, qc9, qd9, qe9, qf9]
  refine wpAnyN_take (i := 11) (v := ?_) rfl (by kernel_rfl) (by kernel_rfl) (by kernel_rfl) (by kernel_rfl) (fun _ _ _ h => h) (Or.inl ⟨by kernel_rfl, ?y11⟩) hHeld ?_
  case y11 =>
    intro w0 hSw
    (try dsimp only at hSw)
    go_simp
    try with_reducible rfl
  try simp only [Act.put, qa9, qb9, qc9, qd9, qe9, qf9]
  refine wpAnyN_take (i := 12) (v := ?_) rfl (by kernel_rfl) (by kernel_rfl) (by kernel_rfl) (by kernel_rfl) (fun _ _ _ h => h) (Or.inl ⟨by kernel_rfl, ?y12⟩) hHeld ?_
  case y12 =>
    intro w0 hSw
    (try dsimp only at hSw)
    go_simp
    try with_reducible rfl
  try simp only [Act.put, qa9, qb9, qc9, qd9, qe9, qf9]
  refine wpAnyN_take (i := 13) (v := ?_) rfl (by kernel_rfl) (by kernel_rfl) (by kernel_rfl) (by kernel_rfl) (fun _ _ _ h => h) (Or.inl ⟨by kernel_rfl, ?y13⟩) hHeld ?_
  case y13 =>
    intro w0 hSw
    (try dsimp only at hSw)
    go_simp
    try with_reducible rfl
  try simp only [Act.put, qa9, qb9, qc9, qd9, qe9, qf9]
  refine wpAnyN_take (i := 14) (v := ?_) rfl (by kernel_rfl) (by kernel_rfl) (by kernel_rfl) (by kernel_rfl) (fun _ _ _ h => h) (Or.inl ⟨by kernel_rfl, ?y14⟩) hHeld ?_
  case y14 =>
    intro w0 hSw
    (try dsimp only at hSw)
    go_simp
    try with_reducible rfl
  try simp only [Act.put, qa9, qb9, qc9, qd9, qe9, qf9]
  refine wpAnyN_take (i := 15) (v := ?_) rfl (by kernel_rfl) (by kernel_rfl) (by kernel_rfl) (by kernel_rfl) (fun _ _ _ h => h) (Or.inl ⟨by kernel_rfl, ?y15⟩) hHeld ?_
  case y15 =>
    intro w0 hSw
    (try dsimp only at hSw)
    go_simp
    try with_reducible rfl
  try simp only [Act.put, qa9, qb9, qc9, qd9, qe9, qf9]
  refine wpAnyN_take (i := 16) (v := ?_) rfl (by kernel_rfl) (by kernel_rfl) (by kernel_rfl) (by kernel_rfl) (fun _ _ _ h => h) (Or.inl ⟨by kernel_rfl, ?y16⟩) hHeld ?_
  case y16 =>
    intro w0 hSw
    (try dsimp only at hSw)
    go_simp
    try with_reducible rfl
  try simp only [Act.put, qa9, qb9, qc9, qd9, qe9, qf9]
  refine wpAnyN_take (i := 17) (v := ?_) rfl (by kernel_rfl) (by kernel_rfl) (by kernel_rfl) (by kernel_rfl) (fun _ _ _ h => h) (Or.inl ⟨by kernel_rfl, ?y17⟩) hHeld ?_
  case y17 =>
    intro w0 hSw
    (try dsimp only at hSw)
    go_simp
    try with_reducible rfl
  try simp only [Act.put, qa9, qb9, qc9, qd9, qe9, qf9]
  refine wpAnyN_take (i := 18) (v := ?_) rfl (by kernel_rfl) (by kernel_rfl) (by kernel_rfl) (by kernel_rfl) (fun _ _ _ h => h) (Or.inl ⟨by kernel_rfl, ?y18⟩) hHeld ?_
  case y18 =>
    intro w0 hSw
    (try dsimp only at hSw)
    go_simp
    try with_reducible rfl
  try simp only [Act.put, qa9, qb9, qc9, qd9, qe9, qf9]
  refine wpAnyN_take (i := 19) (v := ?_) rfl (by kernel_rfl) (by kernel_rfl) (by kernel_rfl) (by kernel_rfl) (fun _ _ _ h => h) (Or.inl ⟨by kernel_rfl, ?y19⟩) hHeld ?_
  case y19 =>
    intro w0 hSw
    (try dsimp only at hSw)
    go_simp
    try with_reducible rfl
  try simp only [Act.put, qa9, qb9, qc9, qd9, qe9, qf9]
  refine wpAnyN_take (i := 20) (v := ?_) rfl (by kernel_rfl) (by kernel_rfl) (by kernel_rfl) (by kernel_rfl) (fun _ _ _ h => h) (Or.inl ⟨by kernel_rfl, ?y20⟩) hHeld ?_
  case y20 =>
    intro w0 hSw
    (try dsimp only at hSw)
    go_simp
    try with_reducible rfl
  try simp only [Act.put, qa9, qb9, qc9, qd9, qe9, qf9]
  refine wpAnyN_take (i := 21) (v := ?_) rfl (by kernel_rfl) (by kernel_rfl) (by kernel_rfl) (by kernel_rfl) (fun _ _ _ h => h) (Or.inl ⟨by kernel_rfl, ?y21⟩) hHeld ?_
  case y21 =>
    intro w0 hSw
    (try dsimp only at hSw)
    go_simp
    try with_reducible rfl
  try simp only [Act.put, qa9, qb9, qc9, qd9, qe9, qf9]
  refine wpAnyN_step (i := 22) (by kernel_rfl) rfl (fun K hK => ?_)
  go_simp
  refine hK.out _ _ (fun _ => ⟨c11a _, HK.out _ (Below.heap_alloc w.drew _ _ hel)⟩) ?_
  clear hK K
  try simp only [Act.put, qa9, qb9, qc9, qd9, qe9, qf9]
  refine wpAnyN_step (i := 23) (by kernel_rfl) rfl (fun K hK => ?_)
  refine step_append_lies _ rfl _ _ 48 rfl 0 87 i0 (.agg #[.string ByteArray.empty, .string ByteArray.empty, .int .i64 0, .int .i64 0]) 4 48 Tryz.underlying48 hi0 hz0 hz1 hz2 rfl (by decide) p.aV S.allots.length _ (by simp [Act.eval, Act.put]) HOW.out ⟨w.heap.size, 0, none⟩ 1 1 (encAllot ⟨e.ref, e.ref2, e.day, e.amount⟩) (by simp [Act.eval, Act.put]) rfl HNEW.out (allot_one _) (by decide) HL.out.1 HL.out.2 (Nat.zero_le _) _ rfl ?_
  intro g cap w1 hown' hgrow hat hlt
  have HOWN := Lib.hid hown'
  have HGROW := Lib.hid hgrow
  have hkw : w1.heap[eb]? = w.heap[eb]? := (hgrow.block eb (by simp; omega) (fun e' => HEB.out e'.symm)).trans (Below.heap_alloc w.drew _ _ hel)
  have hH1 := (hgrow.block bb (by simp; omega) (fun e' => HBB.out e'.symm)).trans ((Below.heap_alloc w.drew _ _ hbl).trans H.out.head)
  have c11' : w1.cell? ⟨bb, 11, none⟩ = some p.aV := by rw [cell_of_blk hH1]; rfl
  have f11' := frozen_blk hH1 11
  clear hown' hgrow hH1
  refine hK.out _ _ (fun _ => ⟨c11', HK.out _ hkw⟩) ?_
  clear hK K
  try simp only [Act.put, qa9, qb9, qc9, qd9, qe9, qf9]
  refine wpAnyN_step (i := 24) (by kernel_rfl) rfl (fun K hK => ?_)
  go_simp
  refine hK.out _ _ (fun _ => ⟨c11', HK.out _ hkw⟩) ?_
  clear hK K
  try simp only [Act.put, qa9, qb9, qc9, qd9, qe9, qf9]
  refine wpAnyN_step (i := 25) (by kernel_rfl) rfl (fun K hK => ?_)
  go_simp
  refine hK.out _ _ (fun _ => ⟨c11', HK.out _ hkw⟩) ?_
  clear hK K
  try simp only [Act.put, qa9, qb9, qc9, qd9, qe9, qf9]
  refine wpAnyN_step (i := 26) (by kernel_rfl) rfl (fun K hK => ?_)
  go_simp
  refine hK.out _ _ (fun h => absurd h (by decide)) ?_
  clear hK K hHeld
  try simp only [Act.put, qa9, qb9, qc9, qd9, qe9, qf9]
  refine wpAnyN_done (by kernel_rfl) ?_ _
  all_goals
    have hbk : ∀ k, k < w.heap.size → p.aV.ownBlock ≠ some k → w1.heap[k]? = w.heap[k]? := fun k hk hn => (HGROW.out.block k (by simp; omega) (fun e => hn e.symm)).trans (Below.heap_alloc w.drew _ _ hk)
    have hg : ρ g = 14 ∨ w.heap.size ≤ g := by
      rcases hat with hat | hat
      · exact .inl (HKB.out g hat)
      · right; subst hat; simp
    have hc1 : Ch F w w1 := ((Ch.refl F w).drew.alloc _).grown HGROW.out fun k hk => .inl ((HF.out k).2 (by have := HKB.out k hk; omega))
    have hP1 := H.out.allotAdd ⟨e.ref, e.ref2, e.day, e.amount⟩ HOWN.out hbk hg hc1.size hlt
    have hC1 := hc1.setCell (p := ⟨bb, 11, none⟩) (.inl ((HF.out bb).2 (by omega))) (.slice (some ⟨g, 0, none⟩) (S.allots.length + 1) cap)
    have HP1 := Lib.hid hP1
    have HC1 := Lib.hid hC1
    have hls : g < (w1.setCell ⟨bb, 11, none⟩ (.slice (some ⟨g, 0, none⟩) (S.allots.length + 1) cap)).heap.size := by simpa [World.setCell] using hlt
    clear hP1 hC1 hc1 hbk hat c11 c11a c11d g1 g5 g6 g9 c11' f11' e1 e5 e6 e9 hkw
    generalize w1.setCell ⟨bb, 11, none⟩ (.slice (some ⟨g, 0, none⟩) (S.allots.length + 1) cap) = W at *
    have hE1 := HEV.out.ch HC1.out HNE.out
    have e5 := hE1.e5
    have e9 := hE1.e9
    have c9 := HP1.out.c9
    have hlk : Sem.run Tryz.prog (Instr.lookup 75 (.map (some p.mC)) (.string e.ref) false) W.drew = .ok (.pointer (some ⟨p.cl i, 0, none⟩)) W.drew := HP1.out.drew.lookCi e.ref i HI.out.1
    have hk := (HP1.out.claim i HIJ.out.2.1).1
    have hk5 : W.cell? ⟨p.cl i, 5, none⟩ = some (.int .i64 S.claims[i].used) := by rw [cell_of_blk hk]; rfl
    have hf5 := frozen_blk hk 5
    have hwr : wrap64 (S.claims[i].used + e.amount) = S.claims[i].used + e.amount := by have := HA.out.1; unfold maxA at this; unfold wrap64; omega
    have hwr' : IntKind.i64.wrap (S.claims[i].used + e.amount) = S.claims[i].used + e.amount := IntWalk.i64_in _ (by have := HA.out.1; unfold maxA at this; omega)
    clear hE1 hk
    go_wp2
    refine still_tail (W := W.drew) 19 (by kernel_rfl) (by kernel_rfl) rfl ?_
    simp only [List.take_succ_cons, List.take_zero, List.drop_succ_cons, List.drop_zero]
    repeat still_step
    refine wpStill_nil ?_
    go_wp2
    have hP2 : BookP (W.setCell ⟨p.cl i, 5, none⟩ (.int .i64 (S.claims[i].used + e.amount))).drew _ _ _ _ := HP1.out.drew.used e.ref e.amount i HIJ.out.2.1 HI.out.1
    have hC2 : Ch F w (W.setCell ⟨p.cl i, 5, none⟩ (.int .i64 (S.claims[i].used + e.amount))).drew := HC1.out.drew.setCell (p := ⟨p.cl i, 5, none⟩) (by
      have hr := (HP1.out.claim i HIJ.out.2.1).2
      by_cases hq : p.cl i = g
      · exact hq ▸ (by rcases hg with hg | hg; exact .inl ((HF.out g).2 (by omega)); exact .inr hg)
      · exact .inl (show F (p.cl i) from (HF.out (p.cl i)).2 (by
          have hr' : putR ρ g 14 (p.cl i) = 13 := hr
          rw [putR_ne _ hq] at hr'; omega))) (.int .i64 (S.claims[i].used + e.amount))
    have HP2 := Lib.hid hP2
    have HC2 := Lib.hid hC2
    clear hP2 hC2 hlk hk5 hf5 hwr hwr' e5 e9 c9
    have hls2 : g < (W.setCell ⟨p.cl i, 5, none⟩ (.int .i64 (S.claims[i].used + e.amount))).drew.heap.size := by
      show g < (W.setCell ⟨p.cl i, 5, none⟩ (.int .i64 (S.claims[i].used + e.amount))).heap.size
      simpa [World.setCell] using hls
    generalize (W.setCell ⟨p.cl i, 5, none⟩ (.int .i64 (S.claims[i].used + e.amount))).drew = V at *
    have hE2 := HEV.out.ch HC2.out HNE.out
    have e6 := hE2.e6
    have e9 := hE2.e9
    have c9 := HP2.out.c9
    have hjl : j < (useL e.ref e.amount S.claims).length := by rw [useL_len]; exact HIJ.out.2.2
    have hjx : ((useL e.ref e.amount S.claims).findIdx? fun x => decide (x.key = e.ref2)) = some j := by rw [useL_find]; exact HI.out.2
    have hju : (useL e.ref e.amount S.claims)[j].used = (S.claims[j]'hj).used := by
      simp only [useL_at e.ref e.amount S.claims i HI.out.1, List.getElem_modify]
      rw [if_neg HIJ.out.1]
    have hlk : Sem.run Tryz.prog (Instr.lookup 75 (.map (some p.mC)) (.string e.ref2) false) V.drew = .ok (.pointer (some ⟨p.cl j, 0, none⟩)) V.drew := HP2.out.drew.lookCi e.ref2 j hjx
    have hk := (HP2.out.claim j hjl).1
    have hk5 : V.cell? ⟨p.cl j, 5, none⟩ = some (.int .i64 (S.claims[j]'hj).used) := by rw [cell_of_blk hk, ← hju]; rfl
    have hf5 := frozen_blk hk 5
    have hwr : wrap64 ((S.claims[j]'hj).used + e.amount) = (S.claims[j]'hj).used + e.amount := by have := HA.out.2; unfold maxA at this; unfold wrap64; omega
    have hwr' : IntKind.i64.wrap ((S.claims[j]'hj).used + e.amount) = (S.claims[j]'hj).used + e.amount := IntWalk.i64_in _ (by have := HA.out.2; unfold maxA at this; omega)
    have HJU := Lib.hid (And.intro hjx hju)
    clear hE2 hk hju hjx
    refine still_tail (W := V.drew) 19 (by kernel_rfl) (by kernel_rfl) rfl ?_
    simp only [List.take_succ_cons, List.take_zero, List.drop_succ_cons, List.drop_zero]
    repeat still_step
    refine wpStill_nil ?_
    go_wp2
    go_end0
    have hP3 := HP2.out.drew.used e.ref2 e.amount j hjl HJU.out.1
    have hju : (useL e.ref e.amount S.claims)[j].used = (S.claims[j]'hj).used := HJU.out.2
    have hC3 := HC2.out.drew.setCell (p := ⟨p.cl j, 5, none⟩) (by
      have hr := (HP2.out.claim j hjl).2
      by_cases hq : p.cl j = g
      · exact hq ▸ (by rcases hg with hg | hg; exact .inl ((HF.out g).2 (by omega)); exact .inr hg)
      · exact .inl (show F (p.cl j) from (HF.out (p.cl j)).2 (by
          have hr' : putR ρ g 14 (p.cl j) = 13 := hr
          rw [putR_ne _ hq] at hr'; omega))) (.int .i64 ((S.claims[j]'hj).used + e.amount))
    simp only at hP3
    rw [hju] at hP3
    refine ⟨rfl, fun k => putR ρ g 14 k ≠ 0, ⟨putR ρ g 14, _, hP3, fun k => Iff.rfl⟩, hC3, ?_⟩
    exact putR_old (W := V.drew.setCell ⟨p.cl j, 5, none⟩ (.int .i64 ((S.claims[j]'hj).used + e.amount))) HF.out (by decide) hg (by simpa [World.setCell] using hls2)
end
end Go.Proofs.YtgocoofcelggcaaGreatDoor
namespace Go.Proofs.YtgocoofcelggcaaGreatDoor
open Go.RowKit
set_option linter.unusedVariables false
set_option linter.unusedSimpArgs false

theorem info_line : (Tryz.prog.info? 90).map (fun i => (i.zero, i.size, i.bytes)) = some (some (.agg #[.string ByteArray.empty, .int .i64 0, .string ByteArray.empty]), 3, 40) := by kernel_rfl

theorem flat_len {s : Nat} : ∀ (xs : List (List Value)), (∀ x ∈ xs, x.length = s) → xs.flatten.length = xs.length * s
  | [], _ => by simp
  | x :: xs, h => by
    rw [List.flatten_cons, List.length_append, h x (by simp), flat_len xs fun y hy => h y (by simp [hy]), List.length_cons, Nat.succ_mul]
    omega
theorem flat_at {s : Nat} : ∀ (xs : List (List Value)), (∀ x ∈ xs, x.length = s) → ∀ t u, xs.flatten[t]? = some u → ∃ j, ∃ hj : j < xs.length, ∃ i, t = j * s + i ∧ xs[j][i]? = some u
  | [], _, t, u, h => by simp at h
  | x :: xs, hs, t, u, h => by
    have hx : x.length = s := hs x (by simp)
    rw [List.flatten_cons] at h
    by_cases ht : t < x.length
    · rw [List.getElem?_append_left ht] at h
      exact ⟨0, by simp, t, by simp, h⟩
    · rw [List.getElem?_append_right (by omega)] at h
      obtain ⟨j, hj, i, e, hu⟩ := flat_at xs (fun y hy => hs y (by simp [hy])) _ u h
      refine ⟨j + 1, by simpa using hj, i, ?_, by simpa using hu⟩
      rw [Nat.succ_mul]
      omega
theorem row_cells {w : World} {R : Nat → Prop} {s : Nat} {ad : Addr} {xs : List (List Value)} (hx : ∀ j (hj : j < xs.length), ∃ a, some ad = some a ∧ a.block < w.heap.size ∧ R a.block ∧ ∀ i u, xs[j][i]? = some u → w.cell? ((a.add (j * s)).add i) = some u)
    (hs : ∀ x ∈ xs, x.length = s) (h0 : 0 < s) (t : Nat) (u : Value) (hu : xs.flatten[t]? = some u) : w.cell? (ad.add t) = some u := by
  obtain ⟨j, hj, i, rfl, h⟩ := flat_at xs hs t u hu
  obtain ⟨a, e, _, _, hc⟩ := hx j hj
  cases e
  rw [← Addr.add_add]
  exact hc i u h

set_option maxRecDepth 100000 in
set_option maxHeartbeats 1000000 in
/-- slices.Clone: a copy in a block of its own; nil for nil. -/
theorem clone_line {w : World} {R : Nat → Prop} {v : Value} {xs : List (List Value)} (h : RowAt w R 3 v xs) (hs : ∀ x ∈ xs, x.length = 3) (h1 : ∀ x ∈ xs, ∀ u ∈ x, u.oneCell' = true) (hl : xs.length ≤ 1048576) :
    Calls Tryz.prog 37 #[v] w fun e w' => ∃ rv, e = .returned rv ∧ w'.ownsRow w.heap.size 90 3 rv xs.length xs.flatten ∧ Below w.heap.size w w' := by
  obtain ⟨i0, hi, hz0, hz1, hz2⟩ := info_parts info_line
  obtain ⟨A, c, hv, hx⟩ := h
  have q : ∀ (w : World) (a : Option Addr) (n c n' c' : Nat), (binOp .eql 23 (.slice a n c) (.slice none n' c')).run Tryz.prog w = .ok (.bool a.isNone) w := fun w a n c n' c' => Lib.run_eql_slice_nil w _ _ a n c n' c' Tryz.underlying23
  subst hv
  cases A with
  | none =>
    have hnil : xs = [] := by
      cases xs with
      | nil => rfl
      | cons x xs => obtain ⟨ad, e, _⟩ := hx 0 (by simp); cases e
    subst hnil
    clear hx hs h1 hl
    go_enter Tryz.func37, Tryz.ntmps37
    go_wp2
    go_ret
    exact ⟨_, rfl, World.ownsRow_nil _ _ _ _, Below.refl _ _⟩
  | some ad =>
    have hlen := flat_len xs hs
    have hcell := fun j u hu => row_cells hx hs (by decide) j u hu
    have hone : ∀ u ∈ xs.flatten, u.oneCell' = true := fun u hu => by
      obtain ⟨x, hx, hu⟩ := List.mem_flatten.1 hu
      exact h1 x hx u hu
    have HC := Lib.hid hcell
    have HON := Lib.hid hone
    have HLN := Lib.hid hlen
    clear hx hs h1 hcell hone hlen
    go_enter Tryz.func37, Tryz.ntmps37
    go_wp2_with (at_builtin; refine wpList_append_own _ rfl _ _ 23 rfl w.heap.size 90 i0 (.agg #[.string ByteArray.empty, .int .i64 0, .string ByteArray.empty]) 3 40 Tryz.underlying23 hi hz0 hz1 hz2 rfl (by decide) _ _ _ rfl (World.ownsRow_made w #[] 0 (Nat.le_refl _) (Nat.zero_le _) rfl) ad xs.length c xs.flatten rfl ?qc1 ?qc2 ?qc3 ?qc4 ?qc5 ?qc6 ?_)
    case qc1 => exact HLN.out
    case qc2 => intro j u hj; exact Lib.cell?_alloc_some _ (HC.out j u hj)
    case qc3 => exact HON.out
    case qc4 => unfold maxLen; omega
    case qc5 => omega
    case qc6 => simp
    intro v' w1 hown hgrow hnil
    go_wp2
    go_ret
    exact ⟨v', rfl, by simpa using hown, ((Below.refl _ w).alloc (Nat.le_refl _) _).grown hgrow (by simp) (by intro k hk; simp [Value.ownBlock] at hk; omega)⟩

set_option maxRecDepth 100000 in
set_option maxHeartbeats 1000000 in
/-- slices.Clone: a copy in a block of its own; nil for nil. -/
theorem clone_allot {w : World} {R : Nat → Prop} {v : Value} {xs : List (List Value)} (h : RowAt w R 4 v xs) (hs : ∀ x ∈ xs, x.length = 4) (h1 : ∀ x ∈ xs, ∀ u ∈ x, u.oneCell' = true) (hl : xs.length ≤ 1048576) :
    Calls Tryz.prog 36 #[v] w fun e w' => ∃ rv, e = .returned rv ∧ w'.ownsRow w.heap.size 87 4 rv xs.length xs.flatten ∧ Below w.heap.size w w' := by
  obtain ⟨i0, hi, hz0, hz1, hz2⟩ := info_parts info_allot
  obtain ⟨A, c, hv, hx⟩ := h
  have q : ∀ (w : World) (a : Option Addr) (n c n' c' : Nat), (binOp .eql 48 (.slice a n c) (.slice none n' c')).run Tryz.prog w = .ok (.bool a.isNone) w := fun w a n c n' c' => Lib.run_eql_slice_nil w _ _ a n c n' c' Tryz.underlying48
  subst hv
  cases A with
  | none =>
    have hnil : xs = [] := by
      cases xs with
      | nil => rfl
      | cons x xs => obtain ⟨ad, e, _⟩ := hx 0 (by simp); cases e
    subst hnil
    clear hx hs h1 hl
    go_enter Tryz.func36, Tryz.ntmps36
    go_wp2
    go_ret
    exact ⟨_, rfl, World.ownsRow_nil _ _ _ _, Below.refl _ _⟩
  | some ad =>
    have hlen := flat_len xs hs
    have hcell := fun j u hu => row_cells hx hs (by decide) j u hu
    have hone : ∀ u ∈ xs.flatten, u.oneCell' = true := fun u hu => by
      obtain ⟨x, hx, hu⟩ := List.mem_flatten.1 hu
      exact h1 x hx u hu
    have HC := Lib.hid hcell
    have HON := Lib.hid hone
    have HLN := Lib.hid hlen
    clear hx hs h1 hcell hone hlen
    go_enter Tryz.func36, Tryz.ntmps36
    go_wp2_with (at_builtin; refine wpList_append_own _ rfl _ _ 48 rfl w.heap.size 87 i0 (.agg #[.string ByteArray.empty, .string ByteArray.empty, .int .i64 0, .int .i64 0]) 4 48 Tryz.underlying48 hi hz0 hz1 hz2 rfl (by decide) _ _ _ rfl (World.ownsRow_made w #[] 0 (Nat.le_refl _) (Nat.zero_le _) rfl) ad xs.length c xs.flatten rfl ?qc1 ?qc2 ?qc3 ?qc4 ?qc5 ?qc6 ?_)
    case qc1 => exact HLN.out
    case qc2 => intro j u hj; exact Lib.cell?_alloc_some _ (HC.out j u hj)
    case qc3 => exact HON.out
    case qc4 => unfold maxLen; omega
    case qc5 => omega
    case qc6 => simp
    intro v' w1 hown hgrow hnil
    go_wp2
    go_ret
    exact ⟨v', rfl, by simpa using hown, ((Below.refl _ w).alloc (Nat.le_refl _) _).grown hgrow (by simp) (by intro k hk; simp [Value.ownBlock] at hk; omega)⟩

set_option maxRecDepth 100000 in
set_option maxHeartbeats 1000000 in
/-- slices.Clone: a copy in a block of its own; nil for nil. -/
theorem clone_post {w : World} {R : Nat → Prop} {v : Value} {xs : List (List Value)} (h : RowAt w R 9 v xs) (hs : ∀ x ∈ xs, x.length = 9) (h1 : ∀ x ∈ xs, ∀ u ∈ x, u.oneCell' = true) (hl : xs.length ≤ 1048576) :
    Calls Tryz.prog 35 #[v] w fun e w' => ∃ rv, e = .returned rv ∧ w'.ownsRow w.heap.size 39 9 rv xs.length xs.flatten ∧ Below w.heap.size w w' := by
  obtain ⟨i0, hi, hz0, hz1, hz2⟩ := info_parts info_post
  obtain ⟨A, c, hv, hx⟩ := h
  have q : ∀ (w : World) (a : Option Addr) (n c n' c' : Nat), (binOp .eql 29 (.slice a n c) (.slice none n' c')).run Tryz.prog w = .ok (.bool a.isNone) w := fun w a n c n' c' => Lib.run_eql_slice_nil w _ _ a n c n' c' Tryz.underlying29
  subst hv
  cases A with
  | none =>
    have hnil : xs = [] := by
      cases xs with
      | nil => rfl
      | cons x xs => obtain ⟨ad, e, _⟩ := hx 0 (by simp); cases e
    subst hnil
    clear hx hs h1 hl
    go_enter Tryz.func35, Tryz.ntmps35
    go_wp2
    go_ret
    exact ⟨_, rfl, World.ownsRow_nil _ _ _ _, Below.refl _ _⟩
  | some ad =>
    have hlen := flat_len xs hs
    have hcell := fun j u hu => row_cells hx hs (by decide) j u hu
    have hone : ∀ u ∈ xs.flatten, u.oneCell' = true := fun u hu => by
      obtain ⟨x, hx, hu⟩ := List.mem_flatten.1 hu
      exact h1 x hx u hu
    have HC := Lib.hid hcell
    have HON := Lib.hid hone
    have HLN := Lib.hid hlen
    clear hx hs h1 hcell hone hlen
    go_enter Tryz.func35, Tryz.ntmps35
    go_wp2_with (at_builtin; refine wpList_append_own _ rfl _ _ 29 rfl w.heap.size 39 i0 (.agg #[.int .i64 0, .int .i64 0, .int .i64 0, .int .i64 0, .string ByteArray.empty, .string ByteArray.empty, .int .i64 0, .string ByteArray.empty, .string ByteArray.empty]) 9 104 Tryz.underlying29 hi hz0 hz1 hz2 rfl (by decide) _ _ _ rfl (World.ownsRow_made w #[] 0 (Nat.le_refl _) (Nat.zero_le _) rfl) ad xs.length c xs.flatten rfl ?qc1 ?qc2 ?qc3 ?qc4 ?qc5 ?qc6 ?_)
    case qc1 => exact HLN.out
    case qc2 => intro j u hj; exact Lib.cell?_alloc_some _ (HC.out j u hj)
    case qc3 => exact HON.out
    case qc4 => unfold maxLen; omega
    case qc5 => omega
    case qc6 => simp
    intro v' w1 hown hgrow hnil
    go_wp2
    go_ret
    exact ⟨v', rfl, by simpa using hown, ((Below.refl _ w).alloc (Nat.le_refl _) _).grown hgrow (by simp) (by intro k hk; simp [Value.ownBlock] at hk; omega)⟩

set_option maxRecDepth 100000 in
set_option maxHeartbeats 1000000 in
/-- slices.Clone: a copy in a block of its own; nil for nil. -/
theorem clone_str {w : World} {R : Nat → Prop} {v : Value} {xs : List (List Value)} (h : RowAt w R 1 v xs) (hs : ∀ x ∈ xs, x.length = 1) (h1 : ∀ x ∈ xs, ∀ u ∈ x, u.oneCell' = true) (hl : xs.length ≤ 1048576) :
    Calls Tryz.prog 33 #[v] w fun e w' => ∃ rv, e = .returned rv ∧ w'.ownsRow w.heap.size 9 1 rv xs.length xs.flatten ∧ Below w.heap.size w w' := by
  obtain ⟨i0, hi, hz0, hz1, hz2⟩ := info_parts info_str
  obtain ⟨A, c, hv, hx⟩ := h
  have q : ∀ (w : World) (a : Option Addr) (n c n' c' : Nat), (binOp .eql 44 (.slice a n c) (.slice none n' c')).run Tryz.prog w = .ok (.bool a.isNone) w := fun w a n c n' c' => Lib.run_eql_slice_nil w _ _ a n c n' c' Tryz.underlying44
  subst hv
  cases A with
  | none =>
    have hnil : xs = [] := by
      cases xs with
      | nil => rfl
      | cons x xs => obtain ⟨ad, e, _⟩ := hx 0 (by simp); cases e
    subst hnil
    clear hx hs h1 hl
    go_enter Tryz.func33, Tryz.ntmps33
    go_wp2
    go_ret
    exact ⟨_, rfl, World.ownsRow_nil _ _ _ _, Below.refl _ _⟩
  | some ad =>
    have hlen := flat_len xs hs
    have hcell := fun j u hu => row_cells hx hs (by decide) j u hu
    have hone : ∀ u ∈ xs.flatten, u.oneCell' = true := fun u hu => by
      obtain ⟨x, hx, hu⟩ := List.mem_flatten.1 hu
      exact h1 x hx u hu
    have HC := Lib.hid hcell
    have HON := Lib.hid hone
    have HLN := Lib.hid hlen
    clear hx hs h1 hcell hone hlen
    go_enter Tryz.func33, Tryz.ntmps33
    go_wp2_with (at_builtin; refine wpList_append_own _ rfl _ _ 44 rfl w.heap.size 9 i0 (.string ByteArray.empty) 1 16 Tryz.underlying44 hi hz0 hz1 hz2 rfl (by decide) _ _ _ rfl (World.ownsRow_made w #[] 0 (Nat.le_refl _) (Nat.zero_le _) rfl) ad xs.length c xs.flatten rfl ?qc1 ?qc2 ?qc3 ?qc4 ?qc5 ?qc6 ?_)
    case qc1 => exact HLN.out
    case qc2 => intro j u hj; exact Lib.cell?_alloc_some _ (HC.out j u hj)
    case qc3 => exact HON.out
    case qc4 => unfold maxLen; omega
    case qc5 => omega
    case qc6 => simp
    intro v' w1 hown hgrow hnil
    go_wp2
    go_ret
    exact ⟨v', rfl, by simpa using hown, ((Below.refl _ w).alloc (Nat.le_refl _) _).grown hgrow (by simp) (by intro k hk; simp [Value.ownBlock] at hk; omega)⟩

end Go.Proofs.YtgocoofcelggcaaGreatDoor
namespace Go.Proofs.YtgocoofcelggcaaGreatDoor
open Go.RowKit
set_option linter.unusedVariables false
set_option linter.unusedSimpArgs false

theorem info_entry : (Tryz.prog.info? 81).map (fun i => (i.zero, i.size, i.bytes)) = some (some (.agg #[.string ByteArray.empty, .int .i64 0, .slice none 0 0, .string ByteArray.empty]), 4, 64) := by kernel_rfl

theorem own_form {w : World} {B e s n : Nat} {v : Value} {xs : List Value} (h : w.ownsRow B e s v n xs) : ∃ A c, v = .slice A n c := by
  rcases h.2 with ⟨hv, h0⟩ | ⟨g, cap, cur, hv, _⟩
  · exact ⟨none, 0, by rw [hv, h0]⟩
  · exact ⟨_, _, hv⟩
def lvPut (lv : Nat → Value) (n : Nat) (v : Value) : Nat → Value := fun i => if i = n then v else lv i
theorem entCells_snoc (es : List EntryV) (lv : Nat → Value) (x : EntryV) (v : Value) : entCells (es ++ [x]) (lvPut lv es.length v) = entCells es lv ++ [encEntry x v] := by
  unfold entCells
  rw [List.mapIdx_append]
  congr 1
  · apply List.ext_getElem
    · simp
    · intro j h1 h2
      simp at h1
      simp [lvPut, Nat.ne_of_lt h1]
  · simp [lvPut]
theorem EntryI.snoc {es : List EntryV} {ps : List (ByteArray × Value)} (h : EntryI es ps) (x : EntryV) (hf : (es.findIdx? fun y => decide (y.key = x.key)) = none) : EntryI (es ++ [x]) (setP x.key (.int .i64 (es.length : Int)) ps) := by
  intro k
  rw [getP_setP, List.findIdx?_append]
  by_cases e : k = x.key
  · subst e
    rw [if_pos rfl, hf]
    simp
  · rw [if_neg e, h k]
    cases hx : es.findIdx? fun y => decide (y.key = k) with
    | none =>
      have : ([x].findIdx? fun y => decide (y.key = k)) = none := by simp [List.findIdx?_cons, Ne.symm e]
      simp [this]
    | some i => simp

/-- One entry more. -/
theorem BookP.entryAdd {w W : World} {ρ : Nat → Nat} {bb : Nat} {S : BookS} {p : Pl} (h : BookP w ρ bb S p) (x : EntryV) {g cap : Nat} {rv : Value} {ps : List (ByteArray × Value)} (hs : w.heap.size ≤ W.heap.size)
    (hk : ∀ k, k < w.heap.size → k ≠ bb → p.eV.ownBlock ≠ some k → k ≠ p.mE → W.heap[k]? = w.heap[k]?)
    (hd : W.heap[bb]? = some (.cells ({ p with eV := .slice (some ⟨g, 0, none⟩) (S.entries.length + 1) cap }.cells S) 78 (0, 0)))
    (hm : StrMap W p.mE ps) (hI : EntryI (S.entries ++ [x]) ps)
    (hown : W.ownsRow 0 81 4 (.slice (some ⟨g, 0, none⟩) (S.entries.length + 1) cap) (S.entries.length + 1) ((entCells S.entries p.lv).flatten ++ encEntry x rv))
    (hg : ρ g = 8 ∨ w.heap.size ≤ g) (hgl : g < W.heap.size) (hln : W.ownsRow w.heap.size 90 3 rv x.lines.length (x.lines.map encLine).flatten) (hgq : rv.ownBlock ≠ some g) :
    ∃ ρ' p', BookP W ρ' bb { S with entries := S.entries ++ [x] } p' ∧ ∀ k, ρ' k ≠ 0 → ρ k ≠ 0 ∨ (w.heap.size ≤ k ∧ k < W.heap.size) := by
  have hkb := h.entries.role
  have hrb := h.rH
  have hrm := h.entry.role
  have hbl := heap_lt h.head
  have hgb : bb ≠ g := fun e => by subst e; rcases hg with hg | hg <;> omega
  have hml : p.mE < w.heap.size := by obtain ⟨ps, h1, _⟩ := h.entry.ex; exact h1.lt
  have hgm : p.mE ≠ g := fun e => by rw [e] at hrm hml; rcases hg with hg | hg <;> omega
  have hq : ∀ k, rv.ownBlock = some k → w.heap.size ≤ k ∧ k < W.heap.size := fun k e => hln.lt k e
  obtain ⟨ρ', hρ⟩ : ∃ ρ', ρ' = putR (putF ρ (fun k => rv.ownBlock = some k) 9) g 8 := ⟨_, rfl⟩
  have hgg : ρ' g = 8 := by rw [hρ]; exact putR_eq _ _ _
  have hqq : ∀ k, rv.ownBlock = some k → ρ' k = 9 := fun k e => by
    have : k ≠ g := fun e' => hgq (e' ▸ e)
    rw [hρ, putR_ne _ this]
    exact putF_eq ρ (G := fun k => rv.ownBlock = some k) 9 e
  have hold : ∀ k, k < w.heap.size → k ≠ g → ρ' k = ρ k := fun k hl hn => by
    rw [hρ, putR_ne _ hn]
    exact putF_ne ρ (G := fun k => rv.ownBlock = some k) 9 fun e => by have := hq k e; omega
  have hany : ∀ k, ρ' k ≠ 0 → ρ k ≠ 0 ∨ (w.heap.size ≤ k ∧ k < W.heap.size) := fun k hk => by
    by_cases e1 : k = g
    · subst e1
      rcases hg with hg | hg
      · exact .inl (by omega)
      · exact .inr ⟨hg, hgl⟩
    · by_cases e2 : rv.ownBlock = some k
      · exact .inr (hq k e2)
      · rw [hρ, putR_ne _ e1, putF_ne ρ (G := fun k => rv.ownBlock = some k) 9 e2] at hk
        exact .inl hk
  have hlt : ∀ k, ρ' k ≠ 0 → k < W.heap.size := fun k hk => by
    rcases hany k hk with h1 | h1
    · have := h.lt k h1; omega
    · exact h1.2
  have hS : ∀ r, r ≠ 0 ∧ r ≠ 1 ∧ r ≠ 8 ∧ r ≠ 10 → SameR ρ ρ' w W r := fun r ⟨h0, h1, h8, h10⟩ k hl he => by
    have hkg : k ≠ g := fun e => by rw [e] at he hl; rcases hg with hg | hg <;> omega
    refine ⟨hk k hl (fun e => by rw [e] at he; omega) (fun e => by have := hkb k e; omega) (fun e => by rw [e] at he; omega), by rw [hold k hl hkg, he]⟩
  refine ⟨ρ', { p with eV := .slice (some ⟨g, 0, none⟩) (S.entries.length + 1) cap, lv := lvPut p.lv S.entries.length rv }, ?_, hany⟩
  exact {
    head := hd
    rH := by rw [hold bb hbl hgb]; exact h.rH
    chart := chart_keep h.chart (hS 2 (by decide)) hs
    keys := h.keys.keep (hS 3 (by decide))
    known := h.known.keep (hS 4 (by decide))
    rows := h.rows.keep (hS 5 (by decide))
    own := h.own.keep (hS 6 (by decide))
    last := h.last.keep (hS 7 (by decide))
    entries := ⟨by
      show World.ownsRow _ _ _ _ _ (S.entries ++ [x]).length (entCells (S.entries ++ [x]) (lvPut p.lv S.entries.length rv)).flatten
      rw [entCells_snoc, List.length_append, List.length_singleton, List.flatten_append]
      simpa using hown, fun k e => by cases e; exact hgg⟩
    lines := fun i hi => by
      by_cases e : i < S.entries.length
      · have h1 := lines_keep h.lines (hS 9 (by decide)) i e
        have e1 : lvPut p.lv S.entries.length rv i = p.lv i := by unfold lvPut; rw [if_neg (by omega)]
        show LinesAt _ _ (lvPut p.lv S.entries.length rv i) (S.entries ++ [x])[i].lines
        rw [e1, List.getElem_append_left e]
        exact h1
      · obtain rfl : i = S.entries.length := by simp at hi; omega
        have e1 : lvPut p.lv S.entries.length rv S.entries.length = rv := by unfold lvPut; rw [if_pos rfl]
        show LinesAt _ _ (lvPut p.lv S.entries.length rv S.entries.length) (S.entries ++ [x])[S.entries.length].lines
        rw [e1, List.getElem_append_right (by omega)]
        simp only [Nat.sub_self, List.getElem_cons_zero]
        refine RowAt.of_own (B := w.heap.size) (e := 90) (by rw [List.length_map]; exact hln) (fun y hy => ?_) hqq
        obtain ⟨z, _, rfl⟩ := List.mem_map.1 hy
        rfl
    entry := ⟨⟨ps, hm, hI⟩, by rw [hold _ hml hgm]; exact hrm⟩
    claims := h.claims.keep (hS 11 (by decide))
    order := h.order.keep (hS 12 (by decide))
    claim := claim_keep h.claim (hS 13 (by decide))
    inj := h.inj
    allots := h.allots.keep (hS 14 (by decide))
    lt := hlt }
end Go.Proofs.YtgocoofcelggcaaGreatDoor
namespace Go.Proofs.YtgocoofcelggcaaGreatDoor
open Go.RowKit
set_option linter.unusedVariables false
set_option linter.unusedSimpArgs false

theorem ent_new (W : World) (k : ByteArray) (d : Int) (v : Value) (t : TypeId) : ∀ j u, [Value.string k, .int .i64 d, v, .string ⟨#[]⟩][j]? = some u → (W.alloc (.cells #[.string k, .int .i64 d, v, .string ⟨#[]⟩] t)).cell? ((⟨W.heap.size, 0, none⟩ : Addr).add j) = some u := by
  intro j u hu
  rw [Addr.add_lit, cell_of_blk (World.alloc_heap_new W _)]
  simpa using hu
theorem ent_one (k : ByteArray) (d : Int) (A : Option Addr) (n c : Nat) : ∀ u ∈ [Value.string k, .int .i64 d, .slice A n c, .string ⟨#[]⟩], u.oneCell' = true := by
  intro u hu
  simp at hu
  rcases hu with rfl | rfl | rfl | rfl <;> rfl

section
variable {w : World} {F : Nat → Prop} {bb eb : Nat} {S : BookS} {e : EventV} {lv : Value}

set_option maxRecDepth 100000 in
set_option maxHeartbeats 4000000 in
theorem post_any (h : BookAt w F bb S) (hE : EvAt w eb e lv) (hne : ¬ F eb) {R : Nat → Prop} (hL : LinesAt w R lv e.lines) (hll : e.lines.length ≤ 12) (hR : ∀ k, R k → ¬ F k) (hlen : S.entries.length ≤ 1000)
    (hf : (S.entries.findIdx? fun y => decide (y.key = e.key)) = none) :
    Calls Tryz.prog 63 #[ptrV bb, ptrV eb] w (BookPost F bb { S with entries := S.entries ++ [⟨e.key, e.day, e.lines, emptyB⟩] } (.tuple #[]) w) := by
  obtain ⟨i0, hi0, hz0, hz1, hz2⟩ := info_parts info_entry
  obtain ⟨ρ, p, h, hF⟩ := h
  have hbl := heap_lt h.head
  have hel := heap_lt hE.blk
  obtain ⟨vA, vc, hv⟩ := own_form h.entries.own
  obtain ⟨ps, hm, hI⟩ := h.entry.ex
  have hrm := h.entry.role
  have hrb := h.rH
  have hml := hm.lt
  have hkb : ∀ k, p.eV.ownBlock = some k → ρ k = 8 := h.entries.role
  have hol : ∀ k, p.eV.ownBlock = some k → k < w.heap.size := fun k hk => (h.entries.own.lt k hk).2
  have c7 := h.c7
  have c8 := h.c8
  rw [hv] at c7
  have e2 := hE.e2
  have hbm : bb ≠ p.mE := fun e' => by rw [← e'] at hrm; omega
  have hem : eb ≠ p.mE := fun e' => hne (e' ▸ (hF p.mE).2 (by omega))
  have heb : eb ≠ bb := fun e' => hne (e' ▸ (hF bb).2 (by omega))
  have hev : p.eV.ownBlock ≠ some eb := fun e' => hne ((hF eb).2 (by have := hkb eb e'; omega))
  have hbv : p.eV.ownBlock ≠ some bb := fun e' => by have := hkb bb e'; omega
  have hmv : p.eV.ownBlock ≠ some p.mE := fun e' => by have := hkb _ e'; omega
  obtain ⟨o, ho⟩ := set_any (w := w.drew) hm Tryz.underlying73 Tryz.underlying9 e.key
  obtain ⟨hru, hmV⟩ := ho (.int .i64 (S.entries.length : Int))
  have hkV : ∀ k, k ≠ p.mE → (w.drew.putObj p.mE (o (.int .i64 (S.entries.length : Int)))).heap[k]? = w.heap[k]? := fun k hk => heap_putObj_other _ hk
  have hchV : Ch F w (w.drew.putObj p.mE (o (.int .i64 (S.entries.length : Int)))) := ((Ch.refl F w).drew).putObj (.inl ((hF p.mE).2 (by omega))) _
  have hszV : (w.drew.putObj p.mE (o (.int .i64 (S.entries.length : Int)))).heap.size = w.heap.size := by simp [World.putObj]
  obtain ⟨V, hV⟩ : ∃ V, w.drew.putObj p.mE (o (.int .i64 (S.entries.length : Int))) = V := ⟨_, rfl⟩
  rw [hV] at hru hmV hkV hchV hszV
  have hLV : LinesAt V R lv e.lines := hL.ch hchV hR
  have hHV := (hkV bb hbm).trans h.head
  have hEV : EvAt V eb e lv := ⟨(hkV eb hem).trans hE.blk⟩
  have hOV : V.ownsRow 0 81 4 (.slice vA S.entries.length vc) S.entries.length (entCells S.entries p.lv).flatten := by
    rw [← hv]
    exact ownsRow_keep h.entries.own fun k hk => hkV k fun e' => hmv (e' ▸ hk)
  have hown0 : (Value.slice vA S.entries.length vc).ownBlock = p.eV.ownBlock := by rw [hv]
  have hcl : Calls Tryz.prog 37 #[lv] V.drew fun en w' => ∃ rv, en = .returned rv ∧ w'.ownsRow V.heap.size 90 3 rv e.lines.length (e.lines.map encLine).flatten ∧ Below V.heap.size V w' := by
    have h1 := clone_line (w := V.drew) (hLV.below ((Below.refl _ V).drew)) (fun x hx => by obtain ⟨z, _, rfl⟩ := List.mem_map.1 hx; rfl) (fun x hx u hu => by
      obtain ⟨z, _, rfl⟩ := List.mem_map.1 hx
      simp [encLine] at hu
      rcases hu with rfl | rfl | rfl <;> rfl) (by rw [List.length_map]; omega)
    rw [List.length_map] at h1
    refine h1.mono ?_
    rintro en w' ⟨rv, h2, h3, h4⟩
    exact ⟨rv, h2, h3, ⟨h4.os, h4.tape, h4.output, h4.size, h4.block⟩⟩
  have hkeep : ∀ W : World, W.heap[eb]? = V.heap[eb]? → W.cell? ⟨eb, 1, none⟩ = some (.int .i64 e.day) ∧ W.cell? ⟨eb, 2, none⟩ = some (.string e.key) ∧ W.cell? ⟨eb, 11, none⟩ = some lv := fun W hW =>
    ⟨(World.cell?_of_block hW).trans hEV.e1, (World.cell?_of_block hW).trans hEV.e2, (World.cell?_of_block hW).trans hEV.e11⟩
  have c7V : ∀ W : World, W.heap[bb]? = V.heap[bb]? → W.cell? ⟨bb, 7, none⟩ = some (.slice vA S.entries.length vc) := fun W hW => (World.cell?_of_block hW).trans (by rw [cell_of_blk hHV, ← hv]; rfl)
  obtain ⟨g1, g2, g11⟩ := hkeep V.drew rfl
  have c7d := c7V V.drew rfl
  have H := Lib.hid h
  have HF := Lib.hid hF
  have HK := Lib.hid hkeep
  have HC7 := Lib.hid c7V
  have HOV := Lib.hid hOV
  have HHV := Lib.hid hHV
  have HMV := Lib.hid hmV
  have HKV := Lib.hid hkV
  have HCV := Lib.hid hchV
  have HN := Lib.hid (And.intro hem (And.intro heb (And.intro hev (And.intro hbv hmv))))
  have HSZ := Lib.hid hszV
  have HBM := Lib.hid hbm
  have HRM := Lib.hid hrm
  have HOB := Lib.hid hown0
  have HOL := Lib.hid hol
  have HKB := Lib.hid hkb
  have HV := Lib.hid hv
  have HI := Lib.hid hI
  have HFR := Lib.hid hf
  have hbV : bb < V.heap.size := by omega
  have heV : eb < V.heap.size := by omega
  have HL := Lib.hid (show S.entries.length + 1 ≤ maxLen ∧ (S.entries.length + 1) * 64 ≤ 140737488355328 from ⟨by unfold maxLen; omega, by omega⟩)
  obtain ⟨n, hn⟩ : ∃ n, n = e.lines.length := ⟨_, rfl⟩
  rw [← hn] at hcl
  have HNL := Lib.hid hn
  clear h hF hkeep c7V hOV hHV hmV hkV hchV hem heb hev hbv hmv hown0 hol hkb hv hI hf hm ho hL hR hLV hEV hE hV hn hrm hszV hbm hll hne
  unfold ptrV
  go_enter Tryz.func63, Tryz.ntmps63
  go_wp2
  refine still_tail (W := w.drew) 13 (by kernel_rfl) (by kernel_rfl) rfl ?_
  simp only [List.take_succ_cons, List.take_zero, List.drop_succ_cons, List.drop_zero]
  repeat still_step
  refine wpStill_nil ?_
  go_wp2
  clear hru c7 c8 e2
  have hHeld : V.drew.cell? ⟨bb, 7, none⟩ = some (.slice vA S.entries.length vc) ∧ V.drew.cell? ⟨eb, 1, none⟩ = some (.int .i64 e.day) ∧ V.drew.cell? ⟨eb, 2, none⟩ = some (.string e.key) ∧ V.drew.cell? ⟨eb, 11, none⟩ = some lv := ⟨c7d, g1, g2, g11⟩
  refine wp_region_n (n := 23) (S := fun w' => w'.cell? ⟨bb, 7, none⟩ = some (.slice vA S.entries.length vc) ∧ w'.cell? ⟨eb, 1, none⟩ = some (.int .i64 e.day) ∧ w'.cell? ⟨eb, 2, none⟩ = some (.string e.key) ∧ w'.cell? ⟨eb, 11, none⟩ = some lv) (by kernel_rfl) ?_
  refine wpAnyN_take (i := 0) (v := ?_) rfl (by kernel_rfl) (by kernel_rfl) (by kernel_rfl) (by kernel_rfl) (fun _ _ _ h => h) (Or.inl ⟨by kernel_rfl, ?y0⟩) hHeld ?_
  case y0 =>
    intro w0 hSw
    (try dsimp only at hSw)
    go_simp
    try with_reducible rfl
  try simp only [Act.put, qa9, qb9, qc9, qd9, qe9, qf9]
  refine wpAnyN_take (i := 1) (v := ?_) rfl (by kernel_rfl) (by kernel_rfl) (by kernel_rfl) (by kernel_rfl) (fun _ _ _ h => h) (Or.inl ⟨by kernel_rfl, ?y1⟩) hHeld ?_
  case y1 =>
    intro w0 hSw
    (try dsimp only at hSw)
    go_simp
    try with_reducible rfl
  try simp only [Act.put, qa9, qb9, qc9, qd9, qe9, qf9]
  refine wpAnyN_take (i := 2) (v := ?_) rfl (by kernel_rfl) (by kernel_rfl) (by kernel_rfl) (by kernel_rfl) (fun _ _ _ h => h) (Or.inl ⟨by kernel_rfl, ?y2⟩) hHeld ?_
  case y2 =>
    intro w0 hSw
    (try dsimp only at hSw)
    go_simp
    try with_reducible rfl
  try simp only [Act.put, qa9, qb9, qc9, qd9, qe9, qf9]
  refine wpAnyN_take (i := 3) (v := ?_) rfl (by kernel_rfl) (by kernel_rfl) (by kernel_rfl) (by kernel_rfl) (fun _ _ _ h => h) (Or.inl ⟨by kernel_rfl, ?y3⟩) hHeld ?_
  case y3 =>
    intro w0 hSw
    (try dsimp only at hSw)
    go_simp
    try with_reducible rfl
  try simp only [Act.put, qa9, qb9, qc9, qd9, qe9, qf9]
  refine wpAnyN_take (i := 4) (v := ?_) rfl (by kernel_rfl) (by kernel_rfl) (by kernel_rfl) (by kernel_rfl) (fun _ _ _ h => h) (Or.inl ⟨by kernel_rfl, ?y4⟩) hHeld ?_
  case y4 =>
    intro w0 hSw
    (try dsimp only at hSw)
    go_simp
    try with_reducible rfl
  try simp only [Act.put, qa9, qb9, qc9, qd9, qe9, qf9]
  refine wpAnyN_take (i := 5) (v := ?_) rfl (by kernel_rfl) (by kernel_rfl) (by kernel_rfl) (by kernel_rfl) (fun _ _ _ h => h) (Or.inl ⟨by kernel_rfl, ?y5⟩) hHeld ?_
  case y5 =>
    intro w0 hSw
    (try dsimp only at hSw)
    go_simp
    try with_reducible rfl
  try simp only [Act.put, qa9, qb9, qc9, qd9, qe9, qf9]
  refine wpAnyN_take (i := 6) (v := ?_) rfl (by kernel_rfl) (by kernel_rfl) (by kernel_rfl) (by kernel_rfl) (fun _ _ _ h => h) (Or.inl ⟨by kernel_rfl, ?y6⟩) hHeld ?_
  case y6 =>
    intro w0 hSw
    (try dsimp only at hSw)
    go_simp
    try with_reducible rfl
  try simp only [Act.put, qa9, qb9, qc9, qd9, qe9, qf9]
  refine wpAnyN_take (i := 7) (v := ?_) rfl (by kernel_rfl) (by kernel_rfl) (by kernel_rfl) (by kernel_rfl) (fun _ _ _ h => h) (Or.inl ⟨by kernel_rfl, ?y7⟩) hHeld ?_
  case y7 =>
    intro w0 hSw
    (try dsimp only at hSw)
    go_simp
    try with_reducible rfl
  try simp only [Act.put, qa9, qb9, qc9, qd9, qe9, qf9]
  refine wpAnyN_take (i := 8) (v := ?_) rfl (by kernel_rfl) (by kernel_rfl) (by kernel_rfl) (by kernel_rfl) (fun _ _ _ h => h) (Or.inl ⟨by kernel_rfl, ?y8⟩) hHeld ?_
  case y8 =>
    intro w0 hSw
    (try dsimp only at hSw)
    go_simp
    try with_reducible rfl
  try simp only [Act.put, qa9, qb9, qc9, qd9, qe9, qf9]
  refine wpAnyN_take (i := 9) (v := ?_) rfl (by kernel_rfl) (by kernel_rfl) (by kernel_rfl) (by kernel_rfl) (fun _ _ _ h => h) (Or.inl ⟨by kernel_rfl, ?y9⟩) hHeld ?_
  case y9 =>
    intro w0 hSw
    (try dsimp only at hSw)
    go_simp
    try with_reducible rfl
  try simp only [Act.put, qa9, qb9, qc9, qd9, qe9, qf9]
  refine wpAnyN_take (i := 10) (v := ?_) rfl (by kernel_rfl) (by kernel_rfl) (by kernel_rfl) (by kernel_rfl) (fun _ _ _ h => h) (Or.inl ⟨by kernel_rfl, ?y10⟩) hHeld ?_
  case y10 =>
    intro w0 hSw
    (try dsimp only at hSw)
    go_simp
    try with_reducible rfl
  try simp only [Act.put, qa9, qb9, qc9, qd9, qe9, qf9]
  refine wpAnyN_take (i := 11) (v := ?_) rfl (by kernel_rfl) (by kernel_rfl) (by kernel_rfl) (by kernel_rfl) (fun _ _ _ h => h) (Or.inl ⟨by kernel_rfl, ?y11⟩) hHeld ?_
  case y11 =>
    intro w0 hSw
    (try dsimp only at hSw)
    go_simp
    try with_reducible rfl
  try simp only [Act.put, qa9, qb9, qc9, qd9, qe9, qf9]
  refine wpAnyN_take (i := 12) (v := ?_) rfl (by kernel_rfl) (by kernel_rfl) (by kernel_rfl) (by kernel_rfl) (fun _ _ _ h => h) (Or.inl ⟨by kernel_rfl, ?y12⟩) hHeld ?_
  case y12 =>
    intro w0 hSw
    (try dsimp only at hSw)
    go_simp
    try with_reducible rfl
  try simp only [Act.put, qa9, qb9, qc9, qd9, qe9, qf9]
  refine wpAnyN_take (i := 13) (v := ?_) rfl (by kernel_rfl) (by kernel_rfl) (by kernel_rfl) (by kernel_rfl) (fun _ _ _ h => h) (Or.inl ⟨by kernel_rfl, ?y13⟩) hHeld ?_
  case y13 =>
    intro w0 hSw
    (try dsimp only at hSw)
    go_simp
    try with_reducible rfl
  try simp only [Act.put, qa9, qb9, qc9, qd9, qe9, qf9]
  refine wpAnyN_take (i := 14) (v := ?_) rfl (by kernel_rfl) (by kernel_rfl) (by kernel_rfl) (by kernel_rfl) (fun _ _ _ h => h) (Or.inl ⟨by kernel_rfl, ?y14⟩) hHeld ?_
  case y14 =>
    intro w0 hSw
    (try dsimp only at hSw)
    go_simp
    try with_reducible rfl
  try simp only [Act.put, qa9, qb9, qc9, qd9, qe9, qf9]
  refine wpAnyN_take (i := 15) (v := ?_) rfl (by kernel_rfl) (by kernel_rfl) (by kernel_rfl) (by kernel_rfl) (fun _ _ _ h => h) (Or.inl ⟨by kernel_rfl, ?y15⟩) hHeld ?_
  case y15 =>
    intro w0 hSw
    (try dsimp only at hSw)
    go_simp
    try with_reducible rfl
  try simp only [Act.put, qa9, qb9, qc9, qd9, qe9, qf9]
  refine wpAnyN_take (i := 16) (v := ?_) rfl (by kernel_rfl) (by kernel_rfl) (by kernel_rfl) (by kernel_rfl) (fun _ _ _ h => h) (Or.inl ⟨by kernel_rfl, ?y16⟩) hHeld ?_
  case y16 =>
    intro w0 hSw
    (try dsimp only at hSw)
    go_simp
    try with_reducible rfl
  try simp only [Act.put, qa9, qb9, qc9, qd9, qe9, qf9]
  refine wpAnyN_step (i := 17) (by kernel_rfl) rfl (fun K hK => ?_)
  go_simp
  go_at_call 37
  refine hcl.mono ?_
  rintro en wc ⟨rv, rfl, hrv, hbc⟩
  obtain ⟨rA, rc, hrf⟩ := own_form hrv
  subst hrf
  have hke : wc.heap[eb]? = V.heap[eb]? := hbc.block eb heV
  have hkb2 : wc.heap[bb]? = V.heap[bb]? := hbc.block bb hbV
  have c7c := HC7.out wc hkb2
  have hewc : eb < wc.heap.size := Nat.lt_of_lt_of_le heV hbc.size
  have hbwc : bb < wc.heap.size := Nat.lt_of_lt_of_le hbV hbc.size
  have c7a : ∀ o, (wc.alloc o).cell? ⟨bb, 7, none⟩ = some (.slice vA S.entries.length vc) := fun o => HC7.out _ ((Below.heap_alloc wc o bb hbwc).trans hkb2)
  have HRV := Lib.hid hrv
  have HBC := Lib.hid hbc
  have HOW := Lib.hid (World.ownsRow.alloc (w := wc) (own_below HOV.out hbc) (.cells #[.string e.key, .int .i64 e.day, .slice rA n rc, .string ⟨#[]⟩] 81))
  clear hcl hrv hbc
  go_wp2_with fail
  have hHeld2 : wc.cell? ⟨bb, 7, none⟩ = some (.slice vA S.entries.length vc) ∧ wc.cell? ⟨eb, 1, none⟩ = some (.int .i64 e.day) ∧ wc.cell? ⟨eb, 2, none⟩ = some (.string e.key) ∧ wc.cell? ⟨eb, 11, none⟩ = some lv := ⟨c7c, HK.out wc hke⟩
  refine hK.out _ _ (fun _ => hHeld2) ?_
  clear hK K
  try simp only [Act.put, qa9, qb9, qc9, qd9, qe9, qf9]
  refine wpAnyN_take (i := 18) (v := ?_) rfl (by kernel_rfl) (by kernel_rfl) (by kernel_rfl) (by kernel_rfl) (fun _ _ _ h => h) (Or.inl ⟨by kernel_rfl, ?y18⟩) hHeld2 ?_
  case y18 =>
    intro w0 hSw
    (try dsimp only at hSw)
    go_simp
    try with_reducible rfl
  try simp only [Act.put, qa9, qb9, qc9, qd9, qe9, qf9]
  refine wpAnyN_step (i := 19) (by kernel_rfl) rfl (fun K hK => ?_)
  go_simp
  refine hK.out _ _ (fun _ => ⟨c7a _, HK.out _ ((Below.heap_alloc wc _ _ hewc).trans hke)⟩) ?_
  clear hK K
  try simp only [Act.put, qa9, qb9, qc9, qd9, qe9, qf9]
  refine wpAnyN_step (i := 20) (by kernel_rfl) rfl (fun K hK => ?_)
  refine step_append_lies _ rfl _ _ 46 rfl 0 81 i0 (.agg #[.string ByteArray.empty, .int .i64 0, .slice none 0 0, .string ByteArray.empty]) 4 64 Tryz.underlying46 hi0 hz0 hz1 hz2 rfl (by decide) (.slice vA S.entries.length vc) S.entries.length _ (by simp [Act.eval, Act.put]) HOW.out ⟨wc.heap.size, 0, none⟩ 1 1 [.string e.key, .int .i64 e.day, .slice rA n rc, .string ⟨#[]⟩] (by simp [Act.eval, Act.put]) rfl (ent_new wc _ _ _ _) (ent_one _ _ _ _ _) (by decide) HL.out.1 HL.out.2 (Nat.zero_le _) _ rfl ?_
  intro g cap w1 hown' hgrow hat hlt
  have HOWN := Lib.hid hown'
  have HGROW := Lib.hid hgrow
  have HAT := Lib.hid hat
  have hkw : w1.heap[eb]? = V.heap[eb]? := ((hgrow.block eb (by simp; omega) (fun e' => HN.out.2.2.1 (HOB.out ▸ e'.symm))).trans (Below.heap_alloc wc _ _ hewc)).trans hke
  have hkw2 : w1.heap[bb]? = V.heap[bb]? := ((hgrow.block bb (by simp; omega) (fun e' => HN.out.2.2.2.1 (HOB.out ▸ e'.symm))).trans (Below.heap_alloc wc _ _ hbwc)).trans hkb2
  have c7w := HC7.out w1 hkw2
  have f7w := frozen_blk (hkw2.trans HHV.out) 7
  clear hown' hgrow hat
  refine hK.out _ _ (fun _ => ⟨c7w, HK.out _ hkw⟩) ?_
  clear hK K
  try simp only [Act.put, qa9, qb9, qc9, qd9, qe9, qf9]
  refine wpAnyN_step (i := 21) (by kernel_rfl) rfl (fun K hK => ?_)
  go_simp
  refine hK.out _ _ (fun _ => ⟨c7w, HK.out _ hkw⟩) ?_
  clear hK K
  try simp only [Act.put, qa9, qb9, qc9, qd9, qe9, qf9]
  refine wpAnyN_step (i := 22) (by kernel_rfl) rfl (fun K hK => ?_)
  go_simp
  refine hK.out _ _ (fun _ => ⟨c7w, HK.out _ hkw⟩) ?_
  clear hK K
  try simp only [Act.put, qa9, qb9, qc9, qd9, qe9, qf9]
  refine wpAnyN_step (i := 23) (by kernel_rfl) rfl (fun K hK => ?_)
  go_simp
  refine hK.out _ _ (fun h => absurd h (by decide)) ?_
  clear hK K hHeld hHeld2
  try simp only [Act.put, qa9, qb9, qc9, qd9, qe9, qf9]
  refine wpAnyN_done (by kernel_rfl) ?_ _
  all_goals
    go_wp2
    go_end0
    have h := H.out
    have hF := HF.out
    have hsz := HSZ.out
    have hcs := HBC.out.size
    have hg : ρ g = 8 ∨ wc.heap.size ≤ g := by
      rcases HAT.out with hat | hat
      · exact .inl (HKB.out g (HOB.out ▸ hat))
      · right; subst hat; simp
    have hgw : ρ g = 8 ∨ w.heap.size ≤ g := by rcases hg with hg | hg; exact .inl hg; exact .inr (by omega)
    have hgb : bb ≠ g := fun e' => by subst e'; rcases hg with hg | hg <;> omega
    have hhd := heap_setCell_same (i := 7) (hkw2.trans HHV.out) (.slice (some ⟨g, 0, none⟩) (S.entries.length + 1) cap)
    have hne : ∀ k, k ≠ bb → (w1.setCell ⟨bb, 7, none⟩ (.slice (some ⟨g, 0, none⟩) (S.entries.length + 1) cap)).heap[k]? = w1.heap[k]? := fun k hk => Below.heap_setCell _ _ _ _ hk
    have hws : (w1.setCell ⟨bb, 7, none⟩ (.slice (some ⟨g, 0, none⟩) (S.entries.length + 1) cap)).heap.size = w1.heap.size := by simp [World.setCell]
    have hc1 : Ch F w w1 := ((HCV.out.below (HBC.out)).alloc _).grown HGROW.out fun k hk => .inl ((hF k).2 (by have := HKB.out k (HOB.out ▸ hk); omega))
    have hcf := hc1.setCell (p := ⟨bb, 7, none⟩) (.inl ((hF bb).2 (by omega))) (.slice (some ⟨g, 0, none⟩) (S.entries.length + 1) cap)
    have hw1 : ∀ k, k < wc.heap.size → p.eV.ownBlock ≠ some k → w1.heap[k]? = wc.heap[k]? := fun k hk hn => (HGROW.out.block k (by simp; omega) (fun e' => hn (HOB.out ▸ e'.symm))).trans (Below.heap_alloc wc _ _ hk)
    have hs1 := hc1.size
    generalize w1.setCell ⟨bb, 7, none⟩ (.slice (some ⟨g, 0, none⟩) (S.entries.length + 1) cap) = W at *
    have hadd := h.entryAdd (W := W) ⟨e.key, e.day, e.lines, emptyB⟩ (g := g) (cap := cap) (rv := .slice rA n rc) (ps := setP e.key (.int .i64 (S.entries.length : Int)) ps) (by omega)
      (fun k hk hkb hkv hkm => ((hne k hkb).trans (hw1 k (by omega) hkv)).trans ((HBC.out.block k (by omega)).trans (HKV.out k hkm)))
      hhd
      (HMV.out.keep ((hne _ fun e' => HBM.out e'.symm).trans ((hw1 _ (by have := HMV.out.lt; omega) HN.out.2.2.2.2).trans (HBC.out.block _ HMV.out.lt))))
      (HI.out.snoc ⟨e.key, e.day, e.lines, emptyB⟩ HFR.out)
      (ownsRow_keep HOWN.out fun k e' => by cases e'; exact hne _ fun e' => hgb e'.symm) hgw (by omega)
      (by
        have h1 := HRV.out
        have h2 : W.ownsRow V.heap.size 90 3 (.slice rA n rc) n (e.lines.map encLine).flatten := ownsRow_keep h1 fun k e' => by
          have hk := h1.lt k e'
          exact (hne k (by omega)).trans (hw1 k hk.2 fun e'' => by have := HOL.out k e''; omega)
        rw [hsz] at h2
        rw [HNL.out] at h2 ⊢
        exact h2)
      (fun e' => by
        have hk := HRV.out.lt g e'
        rcases hg with hg | hg
        · have := h.lt g (by omega)
          omega
        · omega)
    obtain ⟨ρ', p', hP, hany⟩ := hadd
    refine ⟨rfl, fun k => ρ' k ≠ 0, ⟨ρ', p', hP, fun k => Iff.rfl⟩, hcf, fun k hk => ?_⟩
    rcases hany k hk with h1 | h1
    · exact .inl ((hF k).2 h1)
    · exact .inr h1
end
end Go.Proofs.YtgocoofcelggcaaGreatDoor
namespace Go.Proofs.YtgocoofcelggcaaGreatDoor
open Go.RowKit
set_option linter.unusedVariables false
set_option linter.unusedSimpArgs false
section
variable {w : World} {F : Nat → Prop} {bb eb : Nat} {S : BookS} {e : EventV} {lv : Value}

def openN (L : List Acct) (name : ByteArray) : Bool := match findA L name with | none => false | some b => !b.closed
theorem openN_eq (L : List Acct) (name : ByteArray) : openN L name = ((findA L name).isSome && !((findA L name).getD noA).closed) := by
  unfold openN
  cases findA L name <;> rfl

set_option maxRecDepth 100000 in
set_option maxHeartbeats 4000000 in
theorem isOpen_any (h : BookAt w F bb S) (name : ByteArray) :
    Calls Tryz.prog 91 #[ptrV bb, .string name] w fun en w' => en = .returned (.bool (openN S.chart name)) ∧ Below w.heap.size w w' := by
  obtain ⟨ρ, p, h, _⟩ := h
  have c1 := h.c1
  obtain ⟨Fc, hch, _⟩ := h.chart
  have hf := Find_any hch name
  rw [openN_eq]
  generalize (findA S.chart name).getD noA = a at *
  generalize (findA S.chart name).isSome = b at *
  unfold accV at hf
  unfold ptrV
  clear h hch
  cases b
  · go_enter Tryz.func91, Tryz.ntmps91
    go_wp2_with (go_at_call 46; refine hf.mono ?_; rintro en w1 ⟨rfl, hb⟩; clear hf)
    go_ret
    exact ⟨rfl, hb.alloc hb.size _⟩
  · cases hcl : a.closed
    · rw [hcl] at hf
      clear hcl
      go_enter Tryz.func91, Tryz.ntmps91
      go_wp2_with (go_at_call 46; refine hf.mono ?_; rintro en w1 ⟨rfl, hb⟩; clear hf)
      go_ret
      exact ⟨rfl, hb.alloc hb.size _⟩
    · rw [hcl] at hf
      clear hcl
      go_enter Tryz.func91, Tryz.ntmps91
      go_wp2_with (go_at_call 46; refine hf.mono ?_; rintro en w1 ⟨rfl, hb⟩; clear hf)
      go_ret
      exact ⟨rfl, hb.alloc hb.size _⟩

set_option maxRecDepth 100000 in
set_option maxHeartbeats 4000000 in
theorem owes_one (cb xb : Nat) (c : ClaimV) (w : World) (hc1 : w.cell? ⟨cb, 1, none⟩ = some (.string c.account)) (hc4 : w.cell? ⟨cb, 4, none⟩ = some (.int .i64 c.amount)) (hc5 : w.cell? ⟨cb, 5, none⟩ = some (.int .i64 c.used))
    (hx : w.cell? ⟨xb, 0, none⟩ = some (.pointer (some ⟨eb, 0, none⟩))) (he3 : w.cell? ⟨eb, 3, none⟩ = some (.string e.account)) (hr : 0 ≤ c.amount - c.used ∧ c.amount - c.used ≤ 9223372036854775807) :
    Calls Tryz.prog 93 #[.pointer (some ⟨cb, 0, none⟩), .pointer (some ⟨xb, 0, none⟩)] w fun en w' => en = .returned (.bool (decide (c.account = e.account) && decide (0 < c.amount - c.used))) ∧ ∃ m, w' = w.drewN m := by
  have hl := left_quiet cb _ _ _ hc4 hc5 hr
  by_cases ha : c.account = e.account
  · rw [decide_eq_true ha]
    have a1 : (c.account.toList == e.account.toList) = true := by rw [ha]; simp
    clear ha
    go_enter Tryz.func93, Tryz.ntmps93
    go_wp2
    go_quiet ((go_at_call 32; with_reducible refine (hl _).mono ?_; rintro en w2 ⟨rfl, m, rfl⟩; exact ⟨rfl, _, by first | rw [World.drewN_drewN, Nat.add_assoc] | rw [World.drewN_drewN]⟩))
    go_wp2
    go_ret
    exact ⟨ret_bool (by simp), _, rfl⟩
  · rw [decide_eq_false ha]
    have a1 : (c.account.toList == e.account.toList) = false := by
      rw [ByteArray.toList_eq, ByteArray.toList_eq]
      exact beq_eq_false_iff_ne.2 fun h => ha (Go.WideShapes.bytes_inj h)
    clear ha
    go_enter Tryz.func93, Tryz.ntmps93
    go_wp2
    go_quiet (fail)
    go_wp2
    go_ret
    exact ⟨rfl, _, rfl⟩
end
end Go.Proofs.YtgocoofcelggcaaGreatDoor
namespace Go.Proofs.YtgocoofcelggcaaGreatDoor
open Go.RowKit
set_option linter.unusedVariables false
set_option linter.unusedSimpArgs false
section
variable {w : World} {F : Nat → Prop} {bb eb : Nat} {S : BookS} {e : EventV} {lv : Value}

structure AnyInv {α : Type} (q : α → Bool) (l : List α) (w : World) (i : Value) (wr : World) (k : Nat) : Prop where
  le : k ≤ l.length
  at_ : i = .int .i64 (k : Int)
  all : ∀ j (hj : j < l.length), j < k → q l[j] = false
  bel : Below w.heap.size w wr
theorem any_yes {α : Type} (q : α → Bool) (l : List α) (k : Nat) (hk : k < l.length) (h : q l[k] = true) : l.any q = true := List.any_eq_true.2 ⟨_, List.getElem_mem hk, h⟩
theorem any_no {α : Type} (q : α → Bool) (l : List α) (h : ∀ j (hj : j < l.length), q l[j] = false) : l.any q = false := by
  rw [Bool.eq_false_iff]
  intro e
  obtain ⟨x, hx, hq⟩ := List.any_eq_true.1 e
  obtain ⟨j, hj, rfl⟩ := List.getElem_of_mem hx
  rw [h j hj] at hq
  cases hq
/-- What IndexFunc answers. -/
structure IdxOk (any : Bool) (w : World) (en : Ending) (w' : World) : Prop where
  val : ∃ i : Int, en = .returned (.int .i64 i) ∧ decide (0 ≤ i) = any
  bel : Below w.heap.size w w'

set_option maxRecDepth 100000 in
set_option maxHeartbeats 4000000 in
theorem index_open (h : BookAt w F bb S) (R : Nat → Prop) (v : Value) (l : List Acct) (hl : l.length ≤ 1048576) (hL : RowAt w R 1 v (l.map fun a => [.string a.name])) :
    Calls Tryz.prog 128 #[v, .func (.func 91) #[ptrV bb] #[]] w (IdxOk (l.any (openB S.chart)) w) := by
  obtain ⟨A, c, hv, hcl⟩ := hL
  rw [List.length_map] at hv
  subst hv
  have HC := Lib.hid hcl
  have hop := fun W (hb : Below w.heap.size w W) name => isOpen_any (h.below hb) name
  have hq : ∀ a : Acct, openB S.chart a = openN S.chart a.name := fun a => rfl
  obtain ⟨RB, hRB⟩ : ∃ RB, RB = l.any (openB S.chart) := ⟨_, rfl⟩
  rw [← hRB]
  generalize openB S.chart = q at *
  generalize openN S.chart = qn at *
  have HRB := Lib.hid hRB
  have HOP := Lib.hid hop
  have HQ := Lib.hid hq
  unfold ptrV at HOP ⊢
  clear hcl hop hRB hq h
  go_enter Tryz.func128, Tryz.ntmps128
  go_wp2
  go_loopw [8] (fun i wr => ∃ k, AnyInv q l w i wr k) (fun i _ => l.length - (intOf i).toNat)
  case atStart => exact ⟨0, Nat.zero_le _, rfl, fun _ _ h => absurd h (by omega), Below.refl _ _⟩
  case round =>
    obtain ⟨k, hk, rfl, hall, hbel⟩ := hrel
    have HA := Lib.hid hall
    clear hall
    by_cases hlt : k < l.length
    · obtain ⟨ad, rfl, hab, _, hcs⟩ := HC.out k (by rw [List.length_map]; exact hlt)
      rw [List.getElem_map, Nat.mul_one] at hcs
      obtain ⟨x, hx⟩ : ∃ x, x = l[k] := ⟨_, rfl⟩
      rw [← hx] at hcs
      have HX := Lib.hid hx
      clear hx
      have c0 : wr.cell? (ad.add k) = some (.string x.name) := (hbel.cell (p := ad.add k) (by rw [block_add]; exact hab)).trans (hcs 0 _ rfl)
      have ho := HOP.out wr hbel x.name
      have hqx := HQ.out x
      clear hcs
      cases hb : qn x.name with
      | false =>
        rw [hb] at ho hqx
        have HQX := Lib.hid hqx
        clear hb hqx
        go_wp2_with (go_at_call 91; refine ho.mono ?_; rintro en w1 ⟨rfl, hb1⟩; clear ho)
        go_roundw
        case rel => exact ⟨k + 1, by omega, by go_num, fun j hj hjk => (by
          by_cases e : j = k
          · subst e; rw [← HX.out]; exact HQX.out
          · exact HA.out j hj (by omega)), hbel.trans (hb1.mono hbel.size)⟩
        case measure => simp [intOf]; omega
      | true =>
        rw [hb] at ho hqx
        have HQX := Lib.hid hqx
        clear hb hqx
        go_wp2_with (go_at_call 91; refine ho.mono ?_; rintro en w1 ⟨rfl, hb1⟩; clear ho)
        go_ret
        exact ⟨⟨_, rfl, by rw [HRB.out, any_yes q l k hlt (by rw [← HX.out]; exact HQX.out)]; exact decide_eq_true (by omega)⟩, hbel.trans (hb1.mono hbel.size)⟩
    · go_wp2
      go_ret
      exact ⟨⟨_, rfl, by rw [HRB.out, any_no q l fun j hj => HA.out j hj (by omega)]; rfl⟩, hbel⟩

set_option maxRecDepth 100000 in
theorem contains_open (h : BookAt w F bb S) (R : Nat → Prop) (v : Value) (l : List Acct) (hl : l.length ≤ 1048576) (hL : RowAt w R 1 v (l.map fun a => [.string a.name])) :
    Calls Tryz.prog 89 #[v, .func (.func 91) #[ptrV bb] #[]] w fun en w' => en = .returned (.bool (l.any (openB S.chart))) ∧ Below w.heap.size w w' := by
  have hi := index_open h R v l hl hL
  obtain ⟨A, c, hv, _⟩ := hL
  rw [List.length_map] at hv
  subst hv
  obtain ⟨RB, hRB⟩ : ∃ RB, RB = l.any (openB S.chart) := ⟨_, rfl⟩
  rw [← hRB] at hi ⊢
  unfold ptrV at *
  clear h hRB
  go_enter Tryz.func89, Tryz.ntmps89
  go_wp2_with (go_at_call 128; refine hi.mono ?_; rintro en w1 ⟨⟨i, rfl, hd⟩, hb1⟩; have HD := Lib.hid hd; clear hi hd)
  go_ret
  refine ⟨ret_bool ?_, hb1⟩
  rw [← HD.out]

set_option maxRecDepth 100000 in
set_option maxHeartbeats 4000000 in
theorem index_owes (xb : Nat) (v : Value) (cl : Nat → Nat) (l : List ClaimV) (hl : l.length ≤ 1048576) (R : Nat → Prop) (hL : RowAt w R 1 v ((ptrsFrom cl l.length).map fun p => [p]))
    (hcl : ∀ i (hi : i < l.length), w.heap[cl i]? = some (.cells (claimCs l[i]) 94 (0, 0))) (hr : ∀ c ∈ l, 0 ≤ c.amount - c.used ∧ c.amount - c.used ≤ 9223372036854775807)
    (hxl : xb < w.heap.size) (hel : eb < w.heap.size) (hx : w.cell? ⟨xb, 0, none⟩ = some (.pointer (some ⟨eb, 0, none⟩))) (he3 : w.cell? ⟨eb, 3, none⟩ = some (.string e.account)) :
    Calls Tryz.prog 129 #[v, .func (.func 93) #[] #[.pointer (some ⟨xb, 0, none⟩)]] w (IdxOk (owesB l e.account) w) := by
  obtain ⟨A, c, hv, hcs0⟩ := hL
  have hpl : ((ptrsFrom cl l.length).map fun p => [p]).length = l.length := by simp [ptrsFrom]
  rw [hpl] at hv
  subst hv
  have HC := Lib.hid hcs0
  have hone : ∀ W, Below w.heap.size w W → ∀ k (hk : k < l.length), Calls Tryz.prog 93 #[.pointer (some ⟨cl k, 0, none⟩), .pointer (some ⟨xb, 0, none⟩)] W fun en w' => en = .returned (.bool (decide (l[k].account = e.account) && decide (0 < l[k].amount - l[k].used))) ∧ ∃ m, w' = W.drewN m := fun W hb k hk => by
    have hm := (hb.block _ (heap_lt (hcl k hk))).trans (hcl k hk)
    exact owes_one (cl k) xb l[k] W (by rw [cell_of_blk hm]; rfl) (by rw [cell_of_blk hm]; rfl) (by rw [cell_of_blk hm]; rfl) ((hb.cell (p := ⟨xb, 0, none⟩) hxl).trans hx) ((hb.cell (p := ⟨eb, 3, none⟩) hel).trans he3) (hr _ (List.getElem_mem hk))
  have HONE := Lib.hid hone
  obtain ⟨q, hq⟩ : ∃ q : ClaimV → Bool, q = fun c => decide (c.account = e.account) && decide (0 < c.amount - c.used) := ⟨_, rfl⟩
  obtain ⟨RB, hRB⟩ : ∃ RB, RB = owesB l e.account := ⟨_, rfl⟩
  rw [← hRB]
  have HRB := Lib.hid (show RB = l.any q by rw [hRB, hq]; rfl)
  have HQ := Lib.hid hq
  clear hcs0 hone hRB hq hcl hr hpl
  go_enter Tryz.func129, Tryz.ntmps129
  go_wp2
  go_loopw [8] (fun i wr => ∃ k, AnyInv q l w i wr k) (fun i _ => l.length - (intOf i).toNat)
  case atStart => exact ⟨0, Nat.zero_le _, rfl, fun _ _ h => absurd h (by omega), Below.refl _ _⟩
  case round =>
    obtain ⟨k, hk, rfl, hall, hbel⟩ := hrel
    have HA := Lib.hid hall
    clear hall
    by_cases hlt : k < l.length
    · obtain ⟨ad, rfl, hab, _, hcs⟩ := HC.out k (by simp [ptrsFrom]; exact hlt)
      rw [List.getElem_map, Nat.mul_one] at hcs
      have hpk : (ptrsFrom cl l.length)[k]'(by simp [ptrsFrom]; exact hlt) = .pointer (some ⟨cl k, 0, none⟩) := by simp [ptrsFrom, ptrV]
      rw [hpk] at hcs
      have c0 : wr.cell? (ad.add k) = some (.pointer (some ⟨cl k, 0, none⟩)) := (hbel.cell (p := ad.add k) (by rw [block_add]; exact hab)).trans (hcs 0 _ rfl)
      have ho := HONE.out wr hbel k hlt
      have hqx : q l[k] = (decide (l[k].account = e.account) && decide (0 < l[k].amount - l[k].used)) := by rw [HQ.out]
      rw [← hqx] at ho
      generalize cl k = ck at *
      clear hcs hpk hqx
      cases hb : q l[k] with
      | false =>
        rw [hb] at ho
        have HQX := Lib.hid hb
        clear hb
        go_wp2_with (go_at_call 93; refine ho.mono ?_; rintro en w1 ⟨rfl, m, rfl⟩; clear ho)
        go_roundw
        case rel => exact ⟨k + 1, by omega, by go_num, fun j hj hjk => (by
          by_cases e : j = k
          · subst e; exact HQX.out
          · exact HA.out j hj (by omega)), below_drewN hbel _⟩
        case measure => simp [intOf]; omega
      | true =>
        rw [hb] at ho
        have HQX := Lib.hid hb
        clear hb
        go_wp2_with (go_at_call 93; refine ho.mono ?_; rintro en w1 ⟨rfl, m, rfl⟩; clear ho)
        go_ret
        exact ⟨⟨_, rfl, by rw [HRB.out, any_yes q l k hlt HQX.out]; exact decide_eq_true (by omega)⟩, below_drewN hbel _⟩
    · go_wp2
      go_ret
      exact ⟨⟨_, rfl, by rw [HRB.out, any_no q l fun j hj => HA.out j hj (by omega)]; rfl⟩, hbel⟩

set_option maxRecDepth 100000 in
theorem contains_owes (xb : Nat) (v : Value) (cl : Nat → Nat) (l : List ClaimV) (hl : l.length ≤ 1048576) (R : Nat → Prop) (hL : RowAt w R 1 v ((ptrsFrom cl l.length).map fun p => [p]))
    (hcl : ∀ i (hi : i < l.length), w.heap[cl i]? = some (.cells (claimCs l[i]) 94 (0, 0))) (hr : ∀ c ∈ l, 0 ≤ c.amount - c.used ∧ c.amount - c.used ≤ 9223372036854775807)
    (hxl : xb < w.heap.size) (hel : eb < w.heap.size) (hx : w.cell? ⟨xb, 0, none⟩ = some (.pointer (some ⟨eb, 0, none⟩))) (he3 : w.cell? ⟨eb, 3, none⟩ = some (.string e.account)) :
    Calls Tryz.prog 92 #[v, .func (.func 93) #[] #[.pointer (some ⟨xb, 0, none⟩)]] w fun en w' => en = .returned (.bool (owesB l e.account)) ∧ Below w.heap.size w w' := by
  have hi := index_owes xb v cl l hl R hL hcl hr hxl hel hx he3
  obtain ⟨A, c, hv, _⟩ := hL
  subst hv
  obtain ⟨RB, hRB⟩ : ∃ RB, RB = owesB l e.account := ⟨_, rfl⟩
  rw [← hRB] at hi ⊢
  have hpl : ((ptrsFrom cl l.length).map fun p => [p]).length = l.length := by simp [ptrsFrom]
  rw [hpl] at hi ⊢
  clear hRB hcl hr hpl
  go_enter Tryz.func92, Tryz.ntmps92
  go_wp2_with (go_at_call 129; refine hi.mono ?_; rintro en w1 ⟨⟨i, rfl, hd⟩, hb1⟩; have HD := Lib.hid hd; clear hi hd)
  go_ret
  refine ⟨ret_bool ?_, hb1⟩
  rw [← HD.out]
end
end Go.Proofs.YtgocoofcelggcaaGreatDoor
