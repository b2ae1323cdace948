/- daybookkeep: the marks' texts; Drawn regions whose last operations overwrite what the first ones load: S is asked behind the operations ahead of n alone; below's iterator; The order of names, and rising lists of accounts; no program; slices.Insert of one node's address into a list of them that the program owns: three roads; order (two accounts by name) and slices.BinarySearchFunc by it; put: one more into a rising list of nodes; Contracts of the functions on names: Good and what it calls; the world is as it was, or has grown. -/
import Derived.Test.YtplocldnklccfaaGreatDoorPack1
import Derived.Test.YtplocldnklccfaaGreatDoorShelf
import Derived.Lib.LaidTab
import Derived.Lib.ItoaLen
import Derived.Deep.RegionHeld3
import Derived.StillTail
import Derived.Lib.Bytealg
import Derived.Shelf.Spec.SlicesInsertGrow
import Derived.Maps.AppendAt
import Derived.Deep.RegionLaw
import Derived.BigQuiet
import Derived.Deep.QuietTactic
import Derived.Lib.IndexBytes
import Derived.Shelf.Strings.Split
namespace Go.Proofs.YtplocldnklccfaaGreatDoor
open Go.RowKit Go.Shelf
set_option linter.unusedVariables false
set_option linter.unusedSimpArgs false

/-- The table that numbers' texts are made with. -/
def Pow (w : World) : Prop := Lib.TabIs Tryz.prog w "internal/strconv.uint64pow10" .u64 Lib.pow10Tab
theorem pow_at : ∃ g, Tryz.prog.globalNamed "internal/strconv.uint64pow10" = some g := ⟨3, by kernel_rfl⟩
theorem Pow.below {w w' : World} (h : Pow w) (hb : Below w.heap.size w w') : Pow w' := by
  obtain ⟨g, hg⟩ := pow_at
  unfold Pow Lib.TabIs World.var? at h ⊢
  rw [hg] at h ⊢
  simp only [Option.bind_some] at h ⊢
  have hlt : g < w.heap.size := by
    rcases Nat.lt_or_ge g w.heap.size with h' | h'
    · exact h'
    · rw [Array.getElem?_eq_none h'] at h; cases h
  rw [hb.block g hlt]
  exact h
theorem pow_named : Tryz.prog.globalNamed "internal/strconv.uint64pow10" = some 3 := by kernel_rfl
theorem Pow.lt {w : World} (h : Pow w) : 3 < w.heap.size := by
  unfold Pow Lib.TabIs World.var? at h
  rw [pow_named] at h
  simp only [Option.bind_some] at h
  rcases Nat.lt_or_ge 3 w.heap.size with h' | h'
  · exact h'
  · rw [Array.getElem?_eq_none h'] at h; cases h
theorem Pow.ch {F : Nat → Prop} {w w' : World} (h : Pow w) (hc : Ch F w w') (hF : ∀ q, F q → q ≠ 3) : Pow w' := by
  have hlt := h.lt
  unfold Pow Lib.TabIs World.var? at h ⊢
  rw [pow_named] at h ⊢
  simp only [Option.bind_some] at h ⊢
  rw [hc.block _ hlt fun hf => hF _ hf rfl]
  exact h
theorem bel_grow (w : World) (k : Nat) (os : Array Obj) : Below w.heap.size w (Sort.grow (w.drewN k) os) :=
  ⟨rfl, rfl, rfl, by simp [Sort.grow], fun q hq => by
    show (w.heap ++ os)[q]? = _
    rw [Array.getElem?_append_left hq]⟩
/-- A mark that is a text. -/
def textF (id k : Int) : ByteArray := (⟨#[109, 97, 114, 107, 32]⟩ : ByteArray) ++ ⟨(Lib.itoa id).toArray⟩ ++ ⟨#[32]⟩ ++ ⟨(Lib.itoa k).toArray⟩
set_option maxRecDepth 100000 in
theorem text_any (w : World) (hp : Pow w) (id k : Int) (h1 : -9223372036854775808 ≤ id ∧ id ≤ 9223372036854775807) (h2 : -9223372036854775808 ≤ k ∧ k ≤ 9223372036854775807) :
    Calls Tryz.prog 169 #[.int .i64 id, .int .i64 k] w fun e w' => e = .returned (.string (textF id k)) ∧ Below w.heap.size w w' := by
  have hi1 := Tryz.strconv_Itoa id h1.1 h1.2 w hp
  have hi2 := fun W (hb : Below w.heap.size w W) => Tryz.strconv_Itoa k h2.1 h2.2 W (hp.below hb)
  obtain ⟨T1, hT1⟩ : ∃ T, T = Lib.itoa id := ⟨_, rfl⟩
  obtain ⟨T2, hT2⟩ : ∃ T, T = Lib.itoa k := ⟨_, rfl⟩
  unfold textF
  rw [← hT1, ← hT2]
  rw [← hT1] at hi1
  simp only [← hT2] at hi2
  have hl1 := Lib.itoa_length_le id h1.1 h1.2
  have hl2 := Lib.itoa_length_le k h2.1 h2.2
  rw [← hT1] at hl1
  rw [← hT2] at hl2
  have z1 : ¬ (9223372036854775807 < 5 + T1.length) := by omega
  have z2 : ¬ (9223372036854775807 < 5 + T1.length + 1) := by omega
  have z3 : ¬ (9223372036854775807 < 5 + T1.length + 1 + T2.length) := by omega
  clear hT1 hT2 hl1 hl2
  go_enter Tryz.func169, Tryz.ntmps169
  go_wp2_with (go_at_call 226; refine hi1.mono ?_)
  rintro e w1 ⟨rfl, q1, os1, rfl⟩
  have hb1 := bel_grow w q1 os1
  have hi3 := hi2 _ hb1
  generalize Sort.grow (w.drewN q1) os1 = w1 at hb1 hi3 ⊢
  clear hi1 hi2
  go_wp2_with (go_at_call 226; refine hi3.mono ?_)
  rintro e w2 ⟨rfl, q2, os2, rfl⟩
  have hb2 := bel_grow w1 q2 os2
  generalize Sort.grow (w1.drewN q2) os2 = w2 at hb2 ⊢
  go_wp2
  go_ret
  exact ⟨by first | rfl | simp [ByteArray.append_assoc], hb1.trans (hb2.mono hb1.size)⟩
theorem markTexts_any (w : World) (hp : Pow w) (id k : Int) (h1 : -9223372036854775808 ≤ id ∧ id ≤ 9223372036854775807) (h2 : -9223372036854775808 ≤ k ∧ k ≤ 9223372036854775807) :
    Calls Tryz.prog 86 #[.int .i64 id, .int .i64 k] w fun e w' => e = .returned (.string (textF id k)) ∧ Below w.heap.size w w' := by
  have h := text_any w hp id k h1 h2
  go_enter Tryz.func86, Tryz.ntmps86
  go_wp2_with (go_at_call 169; refine h.mono ?_; rintro e w1 ⟨rfl, hb1⟩)
  go_ret
  exact ⟨rfl, hb1⟩
theorem behind_any (w : World) (id : Int) (h1 : 0 ≤ id ∧ id ≤ 1048576) :
    Calls Tryz.prog 87 #[.int .i64 id] w fun e w' => e = .returned (.int .i64 (id + 100000)) ∧ w' = w := by
  have hw : wrap64 (id + 100000) = id + 100000 := by unfold wrap64; omega
  have hw' : IntKind.i64.wrap (id + 100000) = id + 100000 := IntWalk.i64_in _ (by omega)
  go_enter Tryz.func87, Tryz.ntmps87
  go_wp2
  go_ret
  exact ⟨rfl, rfl⟩
theorem sameT_any (w : World) (a b : ByteArray) : Calls Tryz.prog 230 #[.string a, .string b] w fun e w' => e = .returned (.bool (a.toList == b.toList)) ∧ w' = w := by
  go_enter Tryz.func230, Tryz.ntmps230
  go_wp2
  go_ret
  exact ⟨rfl, rfl⟩
end Go.Proofs.YtplocldnklccfaaGreatDoor
namespace Go.Proofs.YtplocldnklccfaaGreatDoor
set_option linter.unusedVariables false

section
variable {P : Program} {ops : Array Oper} {Q : Exit → Act → World → Prop} {md : Region.Mode} {S : World → Prop} {n : Nat}

/-- Whatever order is picked from here on; S holds behind each operation ahead of n. -/
def wpAnyN (P : Program) (md : Region.Mode) (ops : Array Oper) (Q : Exit → Act → World → Prop) (S : World → Prop) (n : Nat) : Nat → Array Bool → Act → World → Prop
  | 0, listed, a, w => Region.ready md ops listed = [] ∧ Q .normal a w
  | fuel + 1, listed, a, w =>
    (Region.ready md ops listed = [] → Q .normal a w) ∧
    ∀ i ∈ Region.ready md ops listed, wpOp P ops Q i (fun a' w' => (i < n → S w') ∧ wpAnyN P md ops Q S n fuel (listed.setIfInBounds i true) a' w') a w

theorem wpAny_of_n : ∀ (fuel : Nat) (listed : Array Bool) (a : Act) (w : World), wpAnyN P md ops Q S n fuel listed a w → wpAny P md ops Q fuel listed a w
  | 0, _, _, _, h => h
  | fuel + 1, _, _, _, h => ⟨h.1, fun i hi => wpOp_mono (fun a' w' h' => wpAny_of_n fuel _ a' w' h'.2) (h.2 i hi)⟩

/-- Two that may come up do not wait for each other. -/
theorem no_wait {listed : Array Bool} {i j : Nat} {oj : Oper} (hi : i ∈ Region.ready md ops listed) (hj : j ∈ Region.ready md ops listed) (ho : ops[j]? = some oj) {d : _} (hd : d ∈ oj.after) (hb : Region.binds md d = true) : d.on ≠ i := by
  obtain ⟨_, o2, ho2, hall⟩ := mem_ready.1 hj
  rw [ho] at ho2
  cases ho2
  have hdone := hall d hd hb
  have hopen := (mem_ready.1 hi).1
  intro heq
  subst heq
  by_cases hl : d.on < listed.size
  · simp [hl] at hdone hopen
    simp [hopen] at hdone
  · simp [Array.getElem?_eq_none (Nat.le_of_not_lt hl)] at hdone

/-- Number i, oi, may go ahead of all that are still to come: what does not wait for it is apart from it. -/
structure Early (md : Region.Mode) (ops : Array Oper) (i : Nat) (oi : Oper) (listed : Array Bool) : Prop where
  apart : ∀ j oj, ops[j]? = some oj → j ≠ i → listed.getD j true = false → (∀ d ∈ oj.after, Region.binds md d = true → d.on ≠ i) → oi.apart ops oj = true
theorem Early.mark {i : Nat} {oi : Oper} {listed : Array Bool} (h : Early md ops i oi listed) {j : Nat} (hj : listed.getD j true = false) : Early md ops i oi (listed.setIfInBounds j true) :=
  ⟨fun k ok hk hne hun hno => h.apart k ok hk hne (if e : j = k then e ▸ hj else getD_set_ne true e ▸ hun) hno⟩

/-- It is taken first, where it yields its value in every world that meets S, and all from n on wait for it. -/
theorem early_first {i : Nat} {oi : Oper} {v : Value} (hi : ops[i]? = some oi) (hsel : ∀ (j : Nat) (o : Oper) cs b, ops[j]? = some o → o.op ≠ .select cs b)
    (hQ : ∀ c a w, Q (.panic c) (a.put oi.dst v) w → Q (.panic c) a w) (hsink : ∀ j oj, ops[j]? = some oj → n ≤ j → j ≠ i → ∃ d ∈ oj.after, Region.binds md d = true ∧ d.on = i)
    (fuel : Nat) (listed : Array Bool) (a : Act) (w : World) (he : Early md ops i oi listed) (hr : i ∈ Region.ready md ops listed) (hy : YieldsIf P ops S oi v a) (hS : S w)
    (H : wpAnyN P md ops Q S n fuel (listed.setIfInBounds i true) (a.put oi.dst v) w) : wpAnyN P md ops Q S n (fuel + 1) listed a w := by
  constructor
  · intro h0
    rw [h0] at hr
    cases hr
  intro j hj
  by_cases hji : j = i
  · subst hji
    exact hy.wpOp hi hS ⟨fun _ => hS, H⟩
  have hjr := ready_mono hj hji
  match fuel, H with
  | 0, H =>
    rw [H.1] at hjr
    cases hjr
  | fuel + 1, H =>
    obtain ⟨hjun, oj, hoj, _⟩ := mem_ready.1 hj
    have hjn : j < n := Nat.lt_of_not_le fun hle => by
      obtain ⟨d, hd, hb, heq⟩ := hsink j oj hoj hle hji
      exact no_wait hr hj hoj hd hb heq
    refine wpOp_mono ?_ (wpOp_putIf hoj (he.apart j oj hoj hji hjun fun d hd hb => no_wait hr hj hoj hd hb) (fun cs b => hsel i oi cs b hi) (fun cs b => hsel j oj cs b hoj) hQ hy (H.2 j hjr))
    intro a' w' h3
    obtain ⟨hy', hS', hrest⟩ := h3
    refine ⟨hS', early_first hi hsel hQ hsink fuel _ a' w' (he.mark hjun) (ready_mono hr (Ne.symm hji)) hy' (hS' hjn) ?_⟩
    rw [Array.setIfInBounds_comm _ _ hji]
    exact hrest

/-- Do all from n on wait for i? -/
def sinkN (md : Region.Mode) (ops : Array Oper) (n i : Nat) : Bool := (List.range ops.size).all fun j => decide (j < n) || decide (j = i) || Region.waitsFor md ops j i
theorem sinkN_spec {i : Nat} (h : sinkN md ops n i = true) : ∀ j oj, ops[j]? = some oj → n ≤ j → j ≠ i → ∃ e ∈ oj.after, Region.binds md e = true ∧ e.on = i := by
  intro j oj hj hn hne
  have hlt : j < ops.size := (Array.getElem?_eq_some_iff.1 hj).1
  have h1 := List.all_eq_true.1 h j (List.mem_range.2 hlt)
  simp only [Bool.or_eq_true, decide_eq_true_eq] at h1
  rcases h1 with (h1 | h1) | h1
  · omega
  · exact absurd h1 hne
  · obtain ⟨o', ho', e, he, hb, heq⟩ := Region.waitsFor_spec h1
    rw [hj] at ho'
    cases ho'
    exact ⟨e, he, hb, heq⟩

theorem wpAnyN_take {i : Nat} {oi : Oper} {v : Value} {fuel : Nat} {listed : Array Bool} {a : Act} {w : World} (hi : ops[i]? = some oi)
    (hs : Region.noSelect ops = true) (hf : Region.free md ops listed i = true) (hr : (Region.ready md ops listed).contains i = true) (hk : sinkN md ops n i = true)
    (hQ : ∀ c a w, Q (.panic c) (a.put oi.dst v) w → Q (.panic c) a w) (hy : YieldsIf P ops S oi v a) (hS : S w)
    (h : wpAnyN P md ops Q S n fuel (listed.setIfInBounds i true) (a.put oi.dst v) w) : wpAnyN P md ops Q S n (fuel + 1) listed a w :=
  early_first hi (Region.noSelect_spec hs) hQ (sinkN_spec hk) fuel listed a w ⟨Region.free_spec hi hf⟩ (by simpa using hr) hy hS h
/-- One alone may come up. -/
theorem wpAnyN_one {i : Nat} {fuel : Nat} {listed : Array Bool} {a : Act} {w : World} (hr : Region.ready md ops listed = [i])
    (h : wpOp P ops Q i (fun a' w' => (i < n → S w') ∧ wpAnyN P md ops Q S n fuel (listed.setIfInBounds i true) a' w') a w) : wpAnyN P md ops Q S n (fuel + 1) listed a w :=
  ⟨fun h0 => (by rw [hr] at h0; cases h0), fun j hj => by
    rw [hr] at hj
    have : j = i := by simpa using hj
    subst this
    exact h⟩
/-- One alone may come up: run it. -/
theorem wpAnyN_step {i : Nat} {o : Oper} {fuel : Nat} {listed : Array Bool} {a : Act} {w : World} (hr : Region.ready md ops listed = [i]) (ho : ops[i]? = some o)
    (h : ∀ K' : Act → World → Prop, Shut (∀ a w, (i < n → S w) → wpAnyN P md ops Q S n fuel (listed.setIfInBounds i true) a w → K' a w) → if Region.wanted o (yielded ops a.tmps) = true then Oper.wp P o a w K' Q else K' (a.put o.dst undef) w) :
    wpAnyN P md ops Q S n (fuel + 1) listed a w :=
  wpAnyN_one hr (wpOp_step ho fun K' hK => h K' fun a w h1 h2 => hK a w ⟨h1, h2⟩)
theorem wpAnyN_done {listed : Array Bool} {a : Act} {w : World} (hr : Region.ready md ops listed = []) (h : Q .normal a w) : ∀ fuel, wpAnyN P md ops Q S n fuel listed a w
  | 0 => ⟨hr, h⟩
  | _ + 1 => ⟨fun _ => h, by rw [hr]; simp⟩
theorem wp_region_n {id : Nat} {a : Act} {w : World} (hm : P.follows .mixedOrders = true)
    (h : wpAnyN P .any ops Q S n ops.size (Array.replicate ops.size false) a w.drew) : (Code.region id ops true).wp P Q a w :=
  wp_region_any hm (wpAny_of_n _ _ _ _ h)
end
end Go.Proofs.YtplocldnklccfaaGreatDoor
namespace Go.Proofs.YtplocldnklccfaaGreatDoor
open Go.RowKit Go.Shelf
set_option linter.unusedVariables false
set_option linter.unusedSimpArgs false
attribute [local go_sem] Oper.semAt_some

/-- Marks of loops that have run out: blocks that hold no deferred call. -/
structure Marks (B : Nat) (ds : List Nat) (W : World) : Prop where
  nodup : ds.Nodup
  at_ : ∀ D ∈ ds, B ≤ D ∧ W.heap[D]? = some (.deferred (some []))

def marksOf (ds : List Nat) : List Deferred := ds.map fun D => { target := .collected D, args := #[] }

theorem Marks.kp {T : TypeId} {n₀ B : Nat} {ds : List Nat} {W W' : World} (h : Marks B ds W) (k : Kp T n₀ B W W') : Marks B ds W' :=
  ⟨h.nodup, fun D hD => ⟨(h.at_ D hD).1, k.same.same D _ (h.at_ D hD).1 (h.at_ D hD).2 rfl⟩⟩
theorem Marks.lt {B : Nat} {ds : List Nat} {W : World} (h : Marks B ds W) {D : Nat} (hD : D ∈ ds) : D < W.heap.size := heap_lt (h.at_ D hD).2

/-- A function leaves with such marks alone. -/
theorem leaves_marks {F : Fence} {n : Nat} {P : Program} {fn : Func} {tmps : Array Value} {R : Ending → World → Prop} {B : Nat} (hres : ∀ w, ∃ v, (results fn tmps).run P w = .ok v w)
    (hR : ∀ D w v, R (.returned v) w → B ≤ D → w.heap[D]? = some (.deferred (some [])) → R (.returned v) (w.putObj D (.deferred none))) :
    ∀ (ds : List Nat) (w : World), Marks B ds w → (∀ v, R (.returned v) w) → LeavesInM F n P fn tmps R (marksOf ds) .returning w
  | [], w, _, h => by
    obtain ⟨v, hv⟩ := hres w
    exact ⟨v, hv, h v⟩
  | D :: ds, w, hm, h => by
    obtain ⟨hB, hD⟩ := hm.at_ D (by simp)
    refine ⟨by simp, .inl ⟨D, _, rfl, run_takeDeferred hD, ?_⟩⟩
    refine leaves_marks hres hR ds _ ⟨(List.nodup_cons.1 hm.nodup).2, fun D' hD' => ?_⟩ fun v => hR D w v (h v) hB hD
    have hne : D' ≠ D := fun e => (List.nodup_cons.1 hm.nodup).1 (e ▸ hD')
    obtain ⟨h1, h2⟩ := hm.at_ D' (by simp [hD'])
    exact ⟨h1, (heap_putObj_other _ hne).trans h2⟩

theorem YieldAt.any {F : Fence} (hd : F.depth = none) {m : Nat} (m' : Nat) {P : Program} {l : Nat} {args : Array Value} {W : World} {R : Ending → World → Prop} (h : YieldAt F m P l args W R) : YieldAt F m' P l args W R := by
  obtain ⟨fn, tmps, assign, body, hy, hR⟩ := h
  exact ⟨fn, tmps, assign, body, hy, hR.1, fun c cs _ => hR.2 c cs (fun d h => by rw [hd] at h; cases h)⟩

/-- Between two rounds of the iterator's own loop. -/
structure SeqInv (J : List Acct → World → Prop) (W : World) (n₀ l0 : Nat) (pre : List Acct) (ds : List Nat) (wr : World) : Prop where
  j : J pre wr
  box : Boxed wr W.heap.size 238 (.func (.yield l0) #[] #[])
  bel : Below n₀ W wr
  marks : Marks W.heap.size ds wr
  size : W.heap.size ≤ wr.heap.size

theorem Marks.grown {B : Nat} {ds : List Nat} {X Y : World} {row : Option Nat} (h : Marks B ds X) (hg : X.grownBy Y row) (hr : ∀ D ∈ ds, some D ≠ row) : Marks B ds Y :=
  ⟨h.nodup, fun D hD => ⟨(h.at_ D hD).1, (hg.block D (h.lt hD) (hr D hD)).trans (h.at_ D hD).2⟩⟩

theorem seqInv_own {J : List Acct → World → Prop} {W : World} {n₀ l0 B : Nat} {ds : List Nat} {pre : List Acct} {a : Acct} (hJ : OwnFrom W.heap.size J) (hn : n₀ ≤ W.heap.size) (hB : W.heap.size ≤ B) (hds : ∀ D ∈ ds, D < B) :
    OwnFrom B (fun q W' => SeqInv J W n₀ l0 (pre ++ a :: q) ds W') := fun q X Y row h hg hr =>
  ⟨hJ _ X Y row h.j hg (fun r e => ⟨Nat.le_trans hB (hr r e).1, (hr r e).2⟩),
   boxed_own W.heap.size _ (fun (_ : Unit) => Value.func (.yield l0) #[] #[]) () X Y row h.box hg (fun r e => (hr r e).2),
   h.bel.grown hg (Nat.le_trans hn h.size) (fun k e => Nat.le_trans (Nat.le_trans hn hB) (hr k e).1),
   h.marks.grown hg (fun D hD e => by have := (hr D e.symm).1; have := hds D hD; omega), Nat.le_trans h.size hg.size⟩

set_option maxRecDepth 100000 in
set_option maxHeartbeats 4000000 in
theorem seq_step (F : Fence) (hd : F.depth = none) (hF : ∀ k, F.fn k) (hro : F.round = none) (n₀ : Nat) (L : List Acct) (nb : ByteArray → Nat) (kv : ByteArray → Value) (sub : Acct → List Acct) (l : List Acct) (hl : ∀ a ∈ l, a ∈ L) (hlen : l.length ≤ 100)
    (ih : ∀ a ∈ l, ∀ (Bt : Nat) (w : World), n₀ ≤ w.heap.size → Bt < w.heap.size → w.cell? ⟨Bt, 0, none⟩ = some (kv a.name) → ForestAt n₀ w nb kv L → It F Tryz.prog 248 #[.pointer (some ⟨Bt, 0, none⟩)] 238 accV n₀ (sub a) w)
    (Bt : Nat) (A : Option Addr) (c : Nat) (w : World) (hw : n₀ ≤ w.heap.size) (hBt : Bt < w.heap.size) (hB : w.cell? ⟨Bt, 0, none⟩ = some (.slice A l.length c)) (hrow : RowOK n₀ w nb (.slice A l.length c) l) (hf : ForestAt n₀ w nb kv L) :
    It F Tryz.prog 248 #[.pointer (some ⟨Bt, 0, none⟩)] 238 accV n₀ (l.flatMap fun a => a :: sub a) w := by
  intro l0 J Jx W hW hJ hJx hY h0 n
  have hdd : ∀ k : Nat, (F.depth.isSome = true → 1 ≤ k) := fun k h => by rw [hd] at h; cases h
  have hBW : W.cell? ⟨Bt, 0, none⟩ = some (.slice A l.length c) := (hW.cell (p := ⟨Bt, 0, none⟩) hBt).trans hB
  have hwW := hW.size
  have hWn : Below n₀ w W := hW.mono hw
  have hBtW : Bt < W.heap.size := by omega
  refine callsIn_of_wp_marks Tryz.func248 rfl (hF _) ?_ hro
  simp only [Tryz.ntmps248, List.size_toArray, List.length_cons, List.length_nil, Nat.reduceAdd, Nat.reduceSub, Array.replicate_succ, Array.replicate_zero, List.push_toArray, List.append_toArray, List.nil_append, List.cons_append]
  have hres : ∀ (tmps : Array Value) w, ∃ v, (results Tryz.f248 tmps).run Tryz.prog w = .ok v w := fun tmps w => ⟨_, by simp [results, Tryz.results248, go_sem]; rfl⟩
  have hst : ∀ (D : Nat) (w : World) (v : Value), ((∃ v', Ending.returned v = .returned v') ∧ (J (l.flatMap fun a => a :: sub a) w ∨ ∃ pre, pre <+: (l.flatMap fun a => a :: sub a) ∧ Jx pre w)) → W.heap.size ≤ D → w.heap[D]? = some (.deferred (some [])) →
      ((∃ v', Ending.returned v = .returned v') ∧ (J (l.flatMap fun a => a :: sub a) (w.putObj D (.deferred none)) ∨ ∃ pre, pre <+: (l.flatMap fun a => a :: sub a) ∧ Jx pre (w.putObj D (.deferred none)))) :=
    fun D w v h hB hD => ⟨h.1, h.2.imp (fun h => hJ.putObj _ h hB hD rfl) fun ⟨p, hp, h⟩ => ⟨p, hp, hJx.putObj _ h hB hD rfl⟩⟩
  gi_wp2
  refine wpIn_loop (fun a' wr => ∃ (k : Nat) (ds : List Nat) (u3 u4 u5 u9 u10 u11 u12 u13 u14 u15 u16 u17 u18 u19 u20 u21 u22 u23 u24 u25 u26 u27 u28 u29 : Value), SeqInv J W n₀ l0 (l.take k |>.flatMap fun a => a :: sub a) ds wr ∧ k ≤ l.length ∧ a' = { tmps := #[.func (.yield l0) #[] #[], .pointer (some ⟨Bt, 0, none⟩), .pointer (some ⟨W.heap.size, 0, none⟩), u3, u4, u5, .slice A l.length c, .int .i64 (l.length : Int), .int .i64 (k : Int), u9, u10, u11, u12, u13, u14, u15, u16, u17, u18, u19, u20, u21, u22, u23, u24, u25, u26, u27, u28, u29], defers := marksOf ds })
    (fun a' _ => l.length - (intOf (a'.tmps.getD 8 undef)).toNat) ?_ ?_
  · exact ⟨0, [], _, _, _, _, _, _, _, _, _, _, _, _, _, _, _, _, _, _, _, _, _, _, _, _, ⟨by simpa using hJ.alloc _ h0, Boxed.new _ _ _, (Below.refl _ _).alloc (by omega) _, ⟨by simp, by simp⟩, by simp⟩, Nat.zero_le _, rfl⟩
  · rintro a' wr ⟨k, ds, u3, u4, u5, u9, u10, u11, u12, u13, u14, u15, u16, u17, u18, u19, u20, u21, u22, u23, u24, u25, u26, u27, u28, u29, ⟨hJr, hbox, hbel, hmarks, hsz⟩, hk, rfl⟩
    by_cases hlt : k < l.length
    · obtain ⟨a, ha⟩ : ∃ a, a = l[k] := ⟨_, rfl⟩
      have haL : a ∈ L := hl a (ha ▸ List.getElem_mem hlt)
      have hfr := hf.below (hWn.trans hbel)
      obtain ⟨A', c', hAe, hcells⟩ := hrow.below (hWn.trans hbel)
      obtain ⟨rfl, rfl⟩ : A = A' ∧ c = c' := by simpa using hAe
      obtain ⟨ad, rfl, hadl, had⟩ := hcells k hlt
      rw [← ha] at had
      unfold ptrV at had
      have hcb := hbox.cell
      have n0 := hfr.c0 a haL
      have n1 := hfr.c1 a haL
      have n2 := hfr.c2 a haL
      have n3 := hfr.c3 a haL
      have hsplit : (l.flatMap fun a => a :: sub a) = ((l.take k).flatMap fun a => a :: sub a) ++ (a :: sub a) ++ (l.drop (k + 1)).flatMap fun a => a :: sub a := by
        conv => lhs; rw [← List.take_append_drop k l, List.drop_eq_getElem_cons hlt]
        rw [← ha]
        simp [List.flatMap_append, List.flatMap_cons]
      have hstep : (l.take (k + 1)).flatMap (fun a => a :: sub a) = ((l.take k).flatMap fun a => a :: sub a) ++ a :: sub a := by
        rw [List.take_succ_eq_append_getElem hlt, ← ha]
        simp [List.flatMap_append, List.flatMap_cons]
      have hpre : ((l.take k).flatMap fun a => a :: sub a) ++ [a] <+: l.flatMap fun a => a :: sub a := ⟨sub a ++ (l.drop (k + 1)).flatMap fun a => a :: sub a, by rw [hsplit]; simp⟩
      have hsub : ∀ q x, q ++ [x] <+: sub a → ((l.take k).flatMap fun a => a :: sub a) ++ a :: q ++ [x] <+: l.flatMap fun a => a :: sub a := fun q x ⟨t, ht⟩ => ⟨t ++ (l.drop (k + 1)).flatMap fun a => a :: sub a, by rw [hsplit, ← ht]; simp⟩
      have hstop : ∀ q, q <+: sub a → ((l.take k).flatMap fun a => a :: sub a) ++ a :: q <+: l.flatMap fun a => a :: sub a := fun q ⟨t, ht⟩ => ⟨t ++ (l.drop (k + 1)).flatMap fun a => a :: sub a, by rw [hsplit, ← ht]; simp⟩
      have HSUB := Lib.hid (And.intro hsub (And.intro hstop hstep))
      clear hsub hstop hstep hsplit
      have hJd := hJ _ _ wr.drew none hJr ⟨rfl, rfl, rfl, Nat.le_refl _, fun _ _ _ => rfl⟩ (fun r e => by cases e)
      obtain ⟨fn, tmps, assign, body, hy, hR⟩ := hY (n - 1) _ a wr.drew hJd hpre
      unfold accV at hy
      replace hR := hR.mono (R' := fun e W3 => ∃ b, e = .returned (.bool b) ∧ Hid (((b = true ∧ J (((l.take k).flatMap fun a => a :: sub a) ++ [a]) W3) ∨ (b = false ∧ Jx (((l.take k).flatMap fun a => a :: sub a) ++ [a]) W3)) ∧ Kp 238 n₀ W.heap.size wr.drew W3))
        (by rintro e W3 ⟨(⟨rfl, h⟩ | ⟨rfl, h⟩), hk3⟩; exact ⟨true, rfl, ⟨.inl ⟨rfl, h⟩, hk3⟩⟩; exact ⟨false, rfl, ⟨.inr ⟨rfl, h⟩, hk3⟩⟩)
      have HR := Lib.hid hR
      have hkd : Kp 238 n₀ W.heap.size wr wr.drew := (Kp.refl _ _ _ _).drew
      have HA := Lib.hid ha
      clear ha hR hAe hcells
      have hmx : Tryz.prog.follows .mixedOrders = true := by kernel_rfl
      gi_wp2
      gi_region_with_o (refine HR.out.mono ?_; rintro e W3 ⟨b, rfl, h3⟩)
      all_goals clear HR
      all_goals
        obtain ⟨h3, hk3⟩ := h3.out
        have hk3 := hkd.trans hk3
        have hm3 := hmarks.kp hk3
        cases b
        · have hx3 := h3.resolve_left (by simp)
          clear h3
          gi_wp2
          exact leaves_marks (hres _) hst ds _ hm3 fun v => ⟨⟨v, rfl⟩, .inr ⟨_, hpre, hx3.2⟩⟩
        · have hj3 := h3.resolve_right (by simp)
          clear h3
          have hb3 := hk3.box _ _ hbox
          have hbel3 := hbel.trans hk3.bel
          have hf3 := hf.below (hWn.trans hbel3)
          have n4 := hf3.c4 a haL
          obtain ⟨A4, c4, e4, _⟩ := (hf3.kids a haL).ex
          rw [e4] at n4
          gi_wp2_with ((try refine ⟨hdd _, ?_⟩); gi_at_call 215; refine (below_in F _ (hF _) hro _ _ _ _).mono ?_; rintro e w' ⟨rfl, rfl⟩)
          obtain ⟨W4, hW4⟩ : ∃ W4, W3.alloc (.cells #[.slice A4 (kidsA L a.name).length c4] 146) = W4 := ⟨_, rfl⟩
          have hs4 : W4.heap.size = W3.heap.size + 1 := by rw [← hW4]; simp
          have hs3 : W.heap.size ≤ W3.heap.size := Nat.le_trans hsz hk3.bel.size
          have hk4 : Kp 238 n₀ W.heap.size W3 W4 := by rw [← hW4]; exact Kp.alloc _ (by omega)
          have hj4 : J (((l.take k).flatMap fun a => a :: sub a) ++ [a]) W4 := by rw [← hW4]; exact hJ.alloc _ hj3.2
          have hc4 : W4.cell? ⟨W3.heap.size, 0, none⟩ = some (kv a.name) := by rw [← hW4, e4]; exact (Boxed.new W3 _ _).cell
          have hb4 := hk4.box _ _ hb3
          have hm4 := hm3.kp hk4
          have hbel4 := hbel3.trans hk4.bel
          have hml4 : ∀ D ∈ ds, D < W4.heap.size := fun D hD => hm4.lt hD
          have hit := ih a (HA.out ▸ List.getElem_mem hlt) W3.heap.size W4 (by omega) (by omega) hc4 (hf.below (hWn.trans hbel4))
          rw [hW4]
          refine wpIn_range_it (T := 238) (enc := accV) (n₀ := n₀) (ys := sub a) hd hro (gf := 248) (lb := #[.pointer (some ⟨W3.heap.size, 0, none⟩)]) rfl (hF _) (enters_of Tryz.func248 (by kernel_rfl) rfl) hit (by omega)
            (fun q W' => SeqInv J W n₀ l0 (((l.take k).flatMap fun a => a :: sub a) ++ a :: q) ds W')
            (fun q W' => Jx (((l.take k).flatMap fun a => a :: sub a) ++ a :: q) W' ∧ Marks W.heap.size ds W')
            (seqInv_own hJ (by omega) (by omega) hml4)
            (fun q X Y row h hg hr => ⟨hJx _ X Y row h.1 hg (fun r e => ⟨Nat.le_trans (by omega) (hr r e).1, (hr r e).2⟩), h.2.grown hg (fun D hD e => by have := (hr D e.symm).1; have := hml4 D hD; omega)⟩)
            ⟨hj4, hb4, hbel4, hm4, by omega⟩
            (fun x a' W' => ∃ Bx, W'.heap[Bx]? = some (.cells #[.string x.name, .int .i64 x.typ, .int .i64 x.opened, .bool x.closed] 159 (0, 0)) ∧ a' = { tmps := #[.func (.yield l0) #[] #[], .pointer (some ⟨Bt, 0, none⟩), .pointer (some ⟨W.heap.size, 0, none⟩), u3, .pointer (some ⟨nb a.name, 0, none⟩), .pointer (some ⟨Bx, 0, none⟩), .slice (some ad) l.length c, .int .i64 (l.length : Int), .int .i64 (k : Int), .bool true, .pointer (some (ad.add k)), .pointer (some ⟨nb a.name, 0, none⟩), .func (.yield l0) #[] #[], .pointer (some ⟨nb a.name, 0, none⟩), .pointer (some ⟨nb a.name, 0, none⟩), .pointer (some ⟨nb a.name, 0, none⟩), .agg #[.string a.name, .int .i64 a.typ, .int .i64 a.opened, .bool a.closed], .bool true, .bool false, .pointer (some ⟨nb a.name, 0, none⟩), .pointer (some ⟨nb a.name, 0, none⟩), .pointer (some ⟨nb a.name, 4, none⟩), .slice A4 (kidsA L a.name).length c4, .func (.func 248) #[] #[.pointer (some ⟨W3.heap.size, 0, none⟩)], accV x, u25, u26, u27, u28, u29], defers := [] })
            (fun x a' _ X Y row h hg hr => by
              obtain ⟨Bx, h1, h2⟩ := h
              refine ⟨Bx, (hg.block Bx (heap_lt h1) (fun e => ?_)).trans h1, h2⟩
              obtain ⟨_, o, ho, hc⟩ := hr Bx e.symm
              rw [h1] at ho; cases ho; cases hc)
            ?assign ?body ?done ?stop
          case assign =>
            intro l2 m q x W' K hs' hI hK
            unfold accV
            gi_wp2
            exact hK _ _ (Kp.alloc _ (by omega)) ⟨hJ.alloc _ hI.j, hI.box.alloc _, hI.bel.alloc (by omega) _, hI.marks.kp (Kp.alloc (T := 238) (n₀ := n₀) _ (by omega)), by simp; omega⟩ ⟨W'.heap.size, heap_alloc_new _ _, rfl⟩
          case body =>
            rintro l2 m q x a' W' hs' ⟨hjq, hbq, hbelq, hmq, hsq⟩ ⟨Bx, hBx, rfl⟩ hq
            obtain ⟨fn, tmps, assign, body, hy, hR⟩ := hY (m - 1) _ x W' hjq (HSUB.out.1 q x hq)
            unfold accV at hy ⊢
            have hcq := hbq.cell
            have x0 : W'.cell? ⟨Bx, 0, none⟩ = some (.string x.name) := by rw [cell_of_blk hBx]; rfl
            have x1 : W'.cell? ⟨Bx, 1, none⟩ = some (.int .i64 x.typ) := by rw [cell_of_blk hBx]; rfl
            have x2 : W'.cell? ⟨Bx, 2, none⟩ = some (.int .i64 x.opened) := by rw [cell_of_blk hBx]; rfl
            have x3 : W'.cell? ⟨Bx, 3, none⟩ = some (.bool x.closed) := by rw [cell_of_blk hBx]; rfl
            have HR := Lib.hid hR
            clear hR
            have hdd2 : ∀ k : Nat, ((F.inRound l2).depth.isSome = true → 1 ≤ k) := fun k h => by rw [show (F.inRound l2).depth = F.depth from rfl, hd] at h; cases h
            gi_wp2
            refine RoundIn.mono (show RoundIn (F.inRound l2) _ _ _ _ _ _ _ _ _ from HR.out) ?_
            clear HR hy
            rintro e W5 ⟨(⟨rfl, h5⟩ | ⟨rfl, h5⟩), hk5⟩
            · gi_wp2
              exact ⟨hk5.mono (by omega), by simpa using h5, hk5.box _ _ hbq, hbelq.trans hk5.bel, hmq.kp hk5, Nat.le_trans hsq hk5.bel.size⟩
            · gi_wp2
              exact ⟨hk5.mono (by omega), by simpa using h5, hmq.kp hk5⟩
          case done =>
            intro D W' hD ⟨hjq, hbq, hbelq, hmq, hsq⟩ hDd
            have hmD : Marks W.heap.size (D :: ds) W' := ⟨List.nodup_cons.2 ⟨fun h => by have := hml4 D h; omega, hmq.nodup⟩, fun D' hD' => by
              rcases List.mem_cons.1 hD' with rfl | hD'
              · exact ⟨by omega, hDd⟩
              · exact hmq.at_ D' hD'⟩
            gi_wp2
            exact ⟨⟨k + 1, D :: ds, _, _, _, _, _, _, _, _, _, _, _, _, _, _, _, _, _, _, _, _, _, _, _, _, ⟨by rw [HSUB.out.2.2]; exact hjq, hbq, hbelq, hmD, by omega⟩, by omega, rfl⟩, by simp [intOf]; omega⟩
          case stop =>
            rintro D q W' hD hq ⟨hx, hmk⟩ hDd
            have hmD : Marks W.heap.size (D :: ds) W' := ⟨List.nodup_cons.2 ⟨fun h => by have := hml4 D h; omega, hmk.nodup⟩, fun D' hD' => by
              rcases List.mem_cons.1 hD' with rfl | hD'
              · exact ⟨by omega, hDd⟩
              · exact hmk.at_ D' hD'⟩
            gi_wp2
            exact leaves_marks (hres _) hst (D :: ds) _ hmD fun v => ⟨⟨v, rfl⟩, .inr ⟨_, HSUB.out.2.1 q hq, hx⟩⟩
    · gi_wp2
      obtain rfl : k = l.length := by omega
      rw [List.take_length] at hJr
      exact leaves_marks (hres _) hst ds _ hmarks fun v => ⟨⟨v, rfl⟩, .inl hJr⟩

/-- The whole iterator, by how deep the accounts lie. -/
theorem seq_it (F : Fence) (hd : F.depth = none) (hF : ∀ k, F.fn k) (hro : F.round = none) (n₀ : Nat) (L : List Acct) (nb : ByteArray → Nat) (kv : ByteArray → Value) (B : Nat) (hlen : L.length ≤ 100)
    (hsz : ∀ a ∈ L, a.name.size ≤ B) (hkid : ∀ a ∈ L, ∀ b ∈ kidsA L a.name, a.name.size < b.name.size) :
    ∀ (d : Nat) (l : List Acct), (∀ a ∈ l, a ∈ L) → (∀ a ∈ l, B < a.name.size + d) → l.length ≤ 100 → ∀ (Bt : Nat) (v : Value) (w : World), n₀ ≤ w.heap.size → Bt < w.heap.size → w.cell? ⟨Bt, 0, none⟩ = some v → RowOK n₀ w nb v l → ForestAt n₀ w nb kv L →
      It F Tryz.prog 248 #[.pointer (some ⟨Bt, 0, none⟩)] 238 accV n₀ (preL L d l) w
  | 0, l, hl, hB, hll, Bt, v, w, hw, hBt, hv, hrow, hf => by
    have hnil : l = [] := by
      cases l with
      | nil => rfl
      | cons a r =>
        have h1 := hB a (by simp)
        have h2 := hsz a (hl a (by simp))
        omega
    subst hnil
    have hrow' := hrow
    obtain ⟨A, c, rfl, _⟩ := hrow'
    exact seq_step F hd hF hro n₀ L nb kv (fun _ => []) [] (by simp) (by simp) (by simp) Bt A c w hw hBt hv hrow hf
  | d + 1, l, hl, hB, hll, Bt, v, w, hw, hBt, hv, hrow, hf => by
    have hrow' := hrow
    obtain ⟨A, c, rfl, _⟩ := hrow'
    refine seq_step F hd hF hro n₀ L nb kv (fun a => preL L d (kidsA L a.name)) l hl hll (fun a ha Bt' w' hw' hBt' hv' hf' => ?_) Bt A c w hw hBt hv hrow hf
    have haL := hl a ha
    refine seq_it F hd hF hro n₀ L nb kv B hlen hsz hkid d (kidsA L a.name) (fun b hb => (List.mem_filter.1 hb).1) (fun b hb => ?_) ?_ Bt' (kv a.name) w' hw' hBt' hv' (hf'.kids a haL) hf'
    · have h1 := hB a ha
      have h2 := hkid a haL b hb
      omega
    · exact Nat.le_trans (List.length_filter_le _ _) hlen
end Go.Proofs.YtplocldnklccfaaGreatDoor
namespace Go.Proofs.YtplocldnklccfaaGreatDoor
open Go.RowKit
set_option linter.unusedVariables false
set_option linter.unusedSimpArgs false

/-- Two names by their bytes: below 0, 0, above 0. -/
def cmpB (a b : ByteArray) : Int := Lib.compareBytes a.data.toList b.data.toList

theorem cmpL_self : ∀ l : List UInt8, Lib.compareBytes l l = 0
  | [] => rfl
  | a :: l => by simp [Lib.compareBytes, cmpL_self l]
theorem cmpL_range : ∀ l m : List UInt8, Lib.compareBytes l m = -1 ∨ Lib.compareBytes l m = 0 ∨ Lib.compareBytes l m = 1
  | [], [] => by simp [Lib.compareBytes]
  | [], _ :: _ => by simp [Lib.compareBytes]
  | _ :: _, [] => by simp [Lib.compareBytes]
  | a :: l, b :: m => by
    unfold Lib.compareBytes
    split
    · simp
    · split
      · simp
      · exact cmpL_range l m
theorem cmpL_eq0 : ∀ l m : List UInt8, Lib.compareBytes l m = 0 → l = m
  | [], [] => by simp
  | [], _ :: _ => by simp [Lib.compareBytes]
  | _ :: _, [] => by simp [Lib.compareBytes]
  | a :: l, b :: m => by
    unfold Lib.compareBytes
    intro h
    split at h
    · simp at h
    · split at h
      · simp at h
      · rename_i h1 h2
        have e : a = b := by
          apply UInt8.toNat_inj.1
          simp [UInt8.lt_iff_toNat_lt] at h1 h2
          omega
        rw [e, cmpL_eq0 l m h]
theorem cmpL_swap : ∀ l m : List UInt8, Lib.compareBytes l m = - Lib.compareBytes m l
  | [], [] => by simp [Lib.compareBytes]
  | [], _ :: _ => by simp [Lib.compareBytes]
  | _ :: _, [] => by simp [Lib.compareBytes]
  | a :: l, b :: m => by
    have ih := cmpL_swap l m
    unfold Lib.compareBytes
    by_cases h1 : a < b
    · have h2 : ¬ b < a := by simp [UInt8.lt_iff_toNat_lt] at h1 ⊢; omega
      simp [h1, h2]
    · by_cases h2 : b < a
      · simp [h1, h2]
      · simp [h1, h2, ih]
theorem cmpL_trans : ∀ l m k : List UInt8, Lib.compareBytes l m < 0 → Lib.compareBytes m k < 0 → Lib.compareBytes l k < 0
  | l, [], _ => by cases l <;> simp [Lib.compareBytes]
  | [], _ :: _, [] => by simp [Lib.compareBytes]
  | [], _ :: _, _ :: _ => by simp [Lib.compareBytes]
  | _ :: _, _ :: _, [] => by simp [Lib.compareBytes]
  | a :: l, b :: m, c :: k => by
    have ih := cmpL_trans l m k
    intro h1 h2
    unfold Lib.compareBytes at h1 h2 ⊢
    simp only [UInt8.lt_iff_toNat_lt] at h1 h2 ⊢
    split at h1
    · split at h2
      · rw [if_pos (by omega)]; decide
      · split at h2
        · simp at h2
        · rw [if_pos (by omega)]; decide
    · split at h1
      · simp at h1
      · split at h2
        · rw [if_pos (by omega)]; decide
        · split at h2
          · simp at h2
          · rw [if_neg (by omega), if_neg (by omega)]
            exact ih h1 h2

theorem cmp_self (a : ByteArray) : cmpB a a = 0 := cmpL_self _
theorem cmp_eq0 {a b : ByteArray} (h : cmpB a b = 0) : a = b := by
  have := cmpL_eq0 _ _ h
  cases a with
  | mk x => cases b with
    | mk y => congr; exact Array.toList_inj.1 this
theorem cmp_swap (a b : ByteArray) : cmpB a b = - cmpB b a := cmpL_swap _ _
theorem cmp_trans {a b c : ByteArray} (h1 : cmpB a b < 0) (h2 : cmpB b c < 0) : cmpB a c < 0 := cmpL_trans _ _ _ h1 h2
theorem cmp_total {a b : ByteArray} (h : a ≠ b) : cmpB a b < 0 ∨ cmpB b a < 0 := by
  have h1 := cmp_swap a b
  have h0 : cmpB a b ≠ 0 := fun e => h (cmp_eq0 e)
  omega
theorem cmp_ne {a b : ByteArray} (h : cmpB a b < 0) : a ≠ b := fun e => by subst e; rw [cmp_self] at h; omega

/-- Rising by name. -/
def Rising (L : List Acct) : Prop := L.Pairwise fun x y => cmpB x.name y.name < 0

/-- One more into a rising list. -/
def insA (a : Acct) : List Acct → List Acct
  | [] => [a]
  | b :: r => if cmpB b.name a.name < 0 then b :: insA a r else a :: b :: r

theorem insA_cons (a b : Acct) (r : List Acct) : insA a (b :: r) = if cmpB b.name a.name < 0 then b :: insA a r else a :: b :: r := rfl
theorem mem_insA {a x : Acct} : ∀ {L : List Acct}, x ∈ insA a L ↔ x = a ∨ x ∈ L
  | [] => by simp [insA]
  | b :: r => by
    unfold insA
    split
    · simp [mem_insA (L := r)]
      constructor
      · rintro (h | h | h) <;> simp [h]
      · rintro (h | h | h) <;> simp [h]
    · simp
theorem length_insA (a : Acct) : ∀ L : List Acct, (insA a L).length = L.length + 1
  | [] => rfl
  | b :: r => by
    unfold insA
    split
    · simp [length_insA a r]
    · simp

theorem insA_low {a : Acct} : ∀ {L : List Acct}, (∀ b ∈ L, 0 ≤ cmpB b.name a.name) → insA a L = a :: L
  | [], _ => rfl
  | b :: r, h => by
    unfold insA
    rw [if_neg (by have := h b (by simp); omega)]

theorem rising_insA {a : Acct} : ∀ {L : List Acct}, Rising L → (∀ b ∈ L, b.name ≠ a.name) → Rising (insA a L)
  | [], _, _ => by simp [Rising, insA]
  | b :: r, h, hn => by
    obtain ⟨h1, h2⟩ := List.pairwise_cons.1 h
    unfold insA
    split
    · rename_i hb
      refine List.pairwise_cons.2 ⟨fun x hx => ?_, rising_insA h2 fun c hc => hn c (by simp [hc])⟩
      rcases mem_insA.1 hx with rfl | hx
      · exact hb
      · exact h1 x hx
    · rename_i hb
      have hab : cmpB a.name b.name < 0 := by
        rcases cmp_total (hn b (by simp)) with h | h
        · exact absurd h hb
        · exact h
      refine List.pairwise_cons.2 ⟨fun x hx => ?_, h⟩
      rcases List.mem_cons.1 hx with rfl | hx
      · exact hab
      · exact cmp_trans hab (h1 x hx)

theorem filter_insA (p : Acct → Bool) (a : Acct) : ∀ L : List Acct, Rising L → (insA a L).filter p = if p a then insA a (L.filter p) else L.filter p
  | [], _ => by
    by_cases hp : p a <;> simp [insA, hp]
  | b :: r, h => by
    obtain ⟨h1, h2⟩ := List.pairwise_cons.1 h
    have ih := filter_insA p a r h2
    rw [insA_cons]
    by_cases hb : cmpB b.name a.name < 0
    · rw [if_pos hb]
      by_cases hpb : p b
      · by_cases hp : p a
        · simp [hpb, hp, ih, insA_cons, hb]
        · simp [hpb, hp, ih]
      · by_cases hp : p a
        · simp [hpb, hp, ih]
        · simp [hpb, hp, ih]
    · rw [if_neg hb]
      have hlow : ∀ c ∈ (b :: r).filter p, 0 ≤ cmpB c.name a.name := fun c hc => by
        rcases List.mem_cons.1 (List.mem_filter.1 hc).1 with rfl | hc'
        · omega
        · rcases Int.lt_or_le (cmpB c.name a.name) 0 with hlt | hge
          · exact absurd (cmp_trans (h1 c hc') hlt) hb
          · exact hge
      by_cases hp : p a
      · rw [if_pos hp, insA_low hlow, List.filter_cons, if_pos hp]
      · rw [if_neg hp, List.filter_cons, if_neg hp]

theorem find_insA {a : Acct} {k : ByteArray} : ∀ {L : List Acct}, (∀ b ∈ L, b.name ≠ a.name) → findA (insA a L) k = if a.name = k then some a else findA L k
  | [], _ => by
    by_cases h : a.name = k <;> simp [findA, insA, h]
  | b :: r, hn => by
    have ih := find_insA (a := a) (k := k) (L := r) fun c hc => hn c (by simp [hc])
    have hb := hn b (by simp)
    unfold findA at ih ⊢
    rw [insA_cons]
    split
    · by_cases hbk : b.name = k
      · have : ¬ a.name = k := fun e => hb (by rw [hbk, e])
        simp [hbk, this]
      · simp only [List.find?_cons, hbk, decide_false]
        exact ih
    · by_cases h : a.name = k
      · simp [h]
      · simp [h]

theorem insA_at (a : Acct) : ∀ (L : List Acct) (i : Nat), i ≤ L.length → (∀ j (hj : j < L.length), j < i → cmpB L[j].name a.name < 0) → (∀ j (hj : j < L.length), i ≤ j → 0 ≤ cmpB L[j].name a.name) →
    insA a L = L.take i ++ a :: L.drop i
  | L, 0, _, _, h => by
    rw [insA_low]
    · simp
    · intro b hb
      obtain ⟨j, hj, rfl⟩ := List.getElem_of_mem hb
      exact h j hj (Nat.zero_le _)
  | [], i + 1, hi, _, _ => by simp at hi
  | b :: r, i + 1, hi, h1, h2 => by
    have hb : cmpB b.name a.name < 0 := h1 0 (by simp) (by omega)
    rw [insA_cons, if_pos hb]
    rw [insA_at a r i (by simpa using hi) (fun j hj hlt => h1 (j + 1) (by simpa using hj) (by omega)) (fun j hj hle => h2 (j + 1) (by simpa using hj) (by omega))]
    simp

theorem find_mem {L : List Acct} {a : Acct} (hr : Rising L) (ha : a ∈ L) : findA L a.name = some a := by
  unfold findA
  induction L with
  | nil => simp at ha
  | cons b r ih =>
    obtain ⟨h1, h2⟩ := List.pairwise_cons.1 hr
    rcases List.mem_cons.1 ha with rfl | ha
    · simp
    · have : ¬ b.name = a.name := cmp_ne (h1 a ha)
      simp [this, ih h2 ha]
theorem find_none {L : List Acct} {k : ByteArray} (h : findA L k = none) : ∀ b ∈ L, b.name ≠ k := by
  intro b hb
  have := List.find?_eq_none.1 h b hb
  simpa using this
theorem rising_filter {L : List Acct} (p : Acct → Bool) (h : Rising L) : Rising (L.filter p) := h.filter p
theorem rising_get {L : List Acct} (h : Rising L) {i j : Nat} (hj : j < L.length) (hij : i < j) : cmpB (L[i]'(by omega)).name L[j].name < 0 := List.pairwise_iff_getElem.1 h i j (by omega) hj hij
end Go.Proofs.YtplocldnklccfaaGreatDoor
namespace Go.Proofs.YtplocldnklccfaaGreatDoor
open Go.RowKit
set_option linter.unusedVariables false
set_option linter.unusedSimpArgs false

theorem info_ptr : (Tryz.prog.info? 234).map (fun i => (i.zero, i.size, i.bytes)) = some (some (.pointer none), 1, 8) := by kernel_rfl

theorem shape_setCells (b : Nat) : ∀ (vs : List Value) (o : Nat) (w : World) (cur : Array Value) (e : TypeId), w.heap[b]? = some (.cells cur e (0, 0)) →
    ∃ cur', (w.setCells b o vs).heap[b]? = some (.cells cur' e (0, 0)) ∧ cur'.size = cur.size
  | [], o, w, cur, e, h => ⟨cur, h, rfl⟩
  | v :: r, o, w, cur, e, h => by
    obtain ⟨c, h1, h2⟩ := shape_setCells b r (o + 1) _ _ e (heap_setCell_same h v (i := o))
    exact ⟨c, h1, by rw [h2]; simp⟩
theorem grown_setCells (b : Nat) : ∀ (vs : List Value) (o : Nat) (w : World), w.grownBy (w.setCells b o vs) (some b)
  | [], o, w => World.grownBy.refl w _
  | v :: r, o, w => World.grownBy.trans (b := w.setCell ⟨b, o, none⟩ v) ⟨rfl, rfl, rfl, by simp [World.setCell], fun k hk hn => Below.heap_setCell _ _ _ _ (fun e => hn (by rw [e]))⟩ (grown_setCells b r (o + 1) _)

theorem own_of_cells {w : World} {g e n cap : Nat} {cur : Array Value} {xs : List Value} (hb : w.heap[g]? = some (.cells cur e (0, 0))) (hs : cur.size = cap) (hn : n ≤ cap) (hm : cap ≤ maxLen) (hl : xs.length = n)
    (hc : ∀ j u, xs[j]? = some u → w.cell? ⟨g, j, none⟩ = some u) : w.ownsRow 0 e 1 (.slice (some ⟨g, 0, none⟩) n cap) n xs := by
  refine ⟨by omega, .inr ⟨g, cap, cur, rfl, Nat.zero_le _, hb, hn, hm, by omega, ?_⟩⟩
  apply List.ext_getElem?
  intro j
  rw [List.getElem?_take]
  by_cases hj : j < n * 1
  · rw [if_pos hj]
    have hjx : j < xs.length := by omega
    have h := hc j _ (List.getElem?_eq_getElem hjx)
    rw [cell_of_row w g j cur e (0, 0) hb] at h
    rw [List.getElem?_eq_getElem hjx, ← h]
    simp
  · rw [if_neg hj, List.getElem?_eq_none (by omega)]

structure InsPost (w : World) (v : Value) (n : Nat) (ys : List Value) (e : Ending) (w' : World) : Prop where
  ex : ∃ v', e = .returned v' ∧ w'.ownsRow 0 234 1 v' n ys ∧ w.grownBy w' v.ownBlock ∧ (v'.ownBlock = v.ownBlock ∨ ∃ k, v'.ownBlock = some k ∧ w.heap.size ≤ k)

set_option maxRecDepth 100000 in
set_option maxHeartbeats 2000000 in
theorem Insert_end (v : Value) (n vb : Nat) (xs : List Value) (x : Value) (w : World) (hn : n ≤ 100) (hown : w.ownsRow 0 234 1 v n xs) (hx : w.heap[vb]? = some (.cells #[x] 234 (0, 0))) (h1 : x.oneCell' = true) :
    Calls Tryz.prog 258 #[v, .int .i64 n, .slice (some ⟨vb, 0, none⟩) 1 1] w (InsPost w v (n + 1) (xs ++ [x])) := by
  obtain ⟨i0, hi, hz0, hz1, hz2⟩ := info_parts info_ptr
  have hxc : ∀ j u, [x][j]? = some u → w.cell? ((⟨vb, 0, none⟩ : Addr).add j) = some u := fun j u hu => by
    have hj : j = 0 := by
      rcases j with _ | j
      · rfl
      · simp at hu
    subst hj
    simp at hu
    subst hu
    show w.cell? ⟨vb, 0, none⟩ = _
    rw [cell_of_row w vb 0 _ _ _ hx]; rfl
  have HX := Lib.hid hx
  have HXC := Lib.hid hxc
  clear hx hxc
  obtain ⟨A, c, rfl, hc0⟩ : ∃ A c, v = .slice A n c ∧ (n = c ∨ ∃ a, A = some a ∧ n ≤ c) := by
    rcases hown.2 with ⟨rfl, rfl⟩ | ⟨g, cap, cur, rfl, _, _, hnc, _⟩
    · exact ⟨none, 0, rfl, .inl rfl⟩
    · exact ⟨_, cap, rfl, .inr ⟨_, rfl, hnc⟩⟩
  have hcn : n ≤ c := by rcases hc0 with h | ⟨_, _, h⟩ <;> omega
  have hcm : c ≤ 9223372036854775807 := by
    rcases hown.2 with ⟨h, _⟩ | ⟨g, cap, cur, h, _, _, _, h2, _⟩
    · injection h; omega
    · injection h with _ _ h; subst h; unfold maxLen at h2; omega
  have HO := Lib.hid hown
  clear hown hc0
  by_cases hcap : c = n
  · subst hcap
    go_enter Tryz.func258, Tryz.ntmps258
    go_wp2_with (at_builtin; refine wpList_append_own_at _ rfl (.tmp 23) (.tmp 24) 146 rfl 0 234 i0 (.pointer none) 1 8 Tryz.underlying146 hi hz0 hz1 hz2 rfl (by decide) _ _ _ rfl HO.out ⟨vb, 0, none⟩ 1 1 [x] rfl rfl ?c1 ?c2 ?c3 ?c4 ?c5 ?_)
    case c1 => exact HXC.out
    case c2 => intro u hu; simp at hu; subst hu; exact h1
    case c3 => unfold maxLen; omega
    case c4 => omega
    case c5 => omega
    intro v' w1 hown' hg _ hat
    have HO' := Lib.hid hown'
    have HG := Lib.hid hg
    have HA := Lib.hid hat
    clear hown' hg hat
    go_wp2
    go_ret
    exact ⟨v', rfl, HO'.out, HG.out, HA.out.imp id fun h => ⟨_, h, Nat.le_refl _⟩⟩
  · have hcap' : ¬ n = c := fun e => hcap e.symm
    go_enter Tryz.func258, Tryz.ntmps258
    go_wp2_with (at_builtin; refine wpList_append_own_at _ rfl (.tmp 23) (.tmp 24) 146 rfl 0 234 i0 (.pointer none) 1 8 Tryz.underlying146 hi hz0 hz1 hz2 rfl (by decide) _ _ _ rfl HO.out ⟨vb, 0, none⟩ 1 1 [x] rfl rfl ?c1 ?c2 ?c3 ?c4 ?c5 ?_)
    case c1 => exact HXC.out
    case c2 => intro u hu; simp at hu; subst hu; exact h1
    case c3 => unfold maxLen; omega
    case c4 => omega
    case c5 => omega
    intro v' w1 hown' hg _ hat
    have HO' := Lib.hid hown'
    have HG := Lib.hid hg
    have HA := Lib.hid hat
    clear hown' hg hat
    go_wp2
    go_ret
    exact ⟨v', rfl, HO'.out, HG.out, HA.out.imp id fun h => ⟨_, h, Nat.le_refl _⟩⟩

theorem blk_cells {w : World} {b : Nat} {cs : Array Value} {t : TypeId} (h : w.heap[b]? = some (.cells cs t (0, 0))) (j : Nat) : w.cell? ⟨b, j, none⟩ = cs[j]? ∧ w.frozen? ⟨b, j, none⟩ = false :=
  ⟨cell_of_row w b j cs t (0, 0) h, by simp [World.frozen?, h]⟩

set_option maxRecDepth 100000 in
set_option maxHeartbeats 4000000 in
theorem Insert_shift (g n c i vb : Nat) (cur : Array Value) (x : Value) (w : World) (hi : i < n) (hn : n ≤ 100) (hroom : n + 1 ≤ c) (hc63 : c ≤ maxLen)
    (hcur : w.heap[g]? = some (.cells cur 234 (0, 0))) (hsz : cur.size = c) (hx : w.heap[vb]? = some (.cells #[x] 234 (0, 0))) (h1 : x.oneCell' = true) (hgv : vb ≠ g)
    (h1c : ∀ u ∈ cur.toList.take n, u.oneCell' = true) :
    Calls Tryz.prog 258 #[.slice (some ⟨g, 0, none⟩) n c, .int .i64 i, .slice (some ⟨vb, 0, none⟩) 1 1] w fun e w' =>
      e = .returned (.slice (some ⟨g, 0, none⟩) (n + 1) c) ∧ w' = (w.drew.setCells g (i + 1) ((cur.toList.take n).drop i)).setCells g i [x] := by
  unfold maxLen at hc63
  have hz2 : ¬ ((i : Int) = (n : Int)) := by omega
  have hsz1 : (Tryz.prog.info? 234).map (·.size) = some 1 := by
    obtain ⟨i0, hi0, h0, h1, h2⟩ := info_parts info_ptr
    rw [hi0]; simp [h1]
  obtain ⟨cs, hcs⟩ : ∃ cs, cs = cur.toList.take n := ⟨_, rfl⟩
  rw [← hcs] at h1c ⊢
  have hcl : cs.length = n := by rw [hcs]; simp; omega
  have hcc : ∀ j u, cs[j]? = some u → w.cell? ⟨g, j, none⟩ = some u := fun j u hu => by
    rw [(blk_cells hcur j).1]
    rw [hcs, List.getElem?_take] at hu
    split at hu
    · simpa using hu
    · cases hu
  have hsp : ∀ j, j < c → (w.cell? ⟨g, j, none⟩).isSome = true := fun j hj => by rw [(blk_cells hcur j).1, Array.getElem?_eq_getElem (by omega)]; rfl
  have hfz : ∀ j, w.frozen? ⟨g, j, none⟩ = false := fun j => (blk_cells hcur j).2
  have hov : ∀ lb cb, (callFunc 271 #[.slice (some ⟨vb, 0, none⟩) 1 1, .slice (some ⟨g, i + 1, none⟩) lb cb]).run Tryz.prog w = .ok (.value (.bool false)) w := fun lb cb => by
    rw [run_callFunc_extern Tryz.func271 (by kernel_rfl) (by kernel_rfl) (by kernel_rfl) (e := Extern.SlicesOverlaps.overlaps #[146, 146] #[4]) (by kernel_rfl),
      Lib.run_overlaps_apart w 146 4 234 Tryz.underlying146 1 Tryz.sizeOf234 ⟨vb, 0, none⟩ ⟨g, i + 1, none⟩ 1 1 lb cb hgv 234 234 1 c (by simp [World.shape?, hx]) (by simp [World.shape?, hcur, hsz]) (by omega) (blk_cells hx 0).2 (blk_cells hx 1).2]
    rfl
  have hdl : (cs.drop i).length = n - i := by rw [List.length_drop, hcl]
  have hw1 : IntKind.i64.wrap ((i : Int) + 1) = (i : Int) + 1 := by rw [IntKind.wrap_i64]; omega
  have hb1 : (0 : Int) ≤ (i : Int) + 1 := by omega
  have hin : i ≤ n := by omega
  have htn : ((i : Int) + 1).toNat = i + 1 := by omega
  have hb2 : ¬ (c = i + 1) := by omega
  have hb3 : (i : Int) ≤ (n : Int) + 1 := by omega
  have hb4 : ¬ (c = i) := by omega
  have hcp1 : ∀ ty dc sc, (Builtin.copy_ #[146, 146] ty #[.slice (some ⟨g, i + 1, none⟩) (n - i) dc, .slice (some ⟨g, i, none⟩) (n + 1 - i) sc]).run Tryz.prog w.drew = .ok (goInt (cs.drop i).length) (w.drew.setCells g (i + 1) (cs.drop i)) := fun ty dc sc =>
    run_copy_cells w.drew _ _ ty 234 g (i + 1) (n - i) dc ⟨g, i, none⟩ (n + 1 - i) sc (cs.drop i) Tryz.underlying146 hsz1 (by rw [hdl]; simp only [Nat.min_def]; split <;> omega)
      (fun j v hj => by rw [Addr.add_lit]; exact hcc (i + j) v (by rwa [List.getElem?_drop] at hj))
      (fun j hj => hsp _ (by omega)) (fun j hj => hfz _) (fun v hv => h1c v (List.mem_of_mem_drop hv))
  obtain ⟨W1, hW1⟩ : ∃ W1, W1 = w.drew.setCells g (i + 1) (cs.drop i) := ⟨_, rfl⟩
  have hsp1 : ∀ k, k < c → (W1.cell? ⟨g, k, none⟩).isSome = true := fun k hk => by
    rw [hW1]
    exact isSome_setCells g (cs.drop i) (i + 1) w.drew (fun j hj => hsp (i + 1 + j) (by rw [hdl] at hj; omega)) _ (hsp k hk)
  have hcp2 : ∀ ty dc, (Builtin.copy_ #[146, 146] ty #[.slice (some ⟨g, i, none⟩) (n + 1 - i) dc, .slice (some ⟨vb, 0, none⟩) 1 1]).run Tryz.prog W1 = .ok (goInt [x].length) (W1.setCells g i [x]) := fun ty dc =>
    run_copy_cells W1 _ _ ty 234 g i (n + 1 - i) dc ⟨vb, 0, none⟩ 1 1 [x] Tryz.underlying146 hsz1 (by simp only [Nat.min_def, List.length_cons, List.length_nil]; split <;> omega)
      (fun j v hj => by
        rw [Addr.add_lit, hW1, World.cell?_setCells_out g _ _ _ _ (fun h _ => absurd h hgv)]
        show w.cell? _ = _
        rw [(blk_cells hx _).1]
        simpa using hj)
      (fun j hj => hsp1 _ (by simp at hj; omega))
      (fun j hj => by rw [hW1, World.frozen?_setCells]; exact hfz _) (fun v hv => by simp at hv; subst hv; exact h1)
  subst hW1
  clear hcs hcl hcc hsp hfz hdl hsp1 hx hcur h1c
  go_enter Tryz.func258, Tryz.ntmps258
  go_wp2_with (simp only [hov])
  go_region_law (refine step_copy_runI rfl _ _ 146 146 rfl _ _ (by simp [Act.eval, Act.put]) (by simp [Act.eval, Act.put]) (hcp1 _ _ _) ?_)
  go_wp2_with (at_builtin; refine wpList_copy_runI _ rfl _ _ 146 146 rfl _ _ rfl rfl (hcp2 _ _) ?_)
  go_ret
  exact ⟨rfl, rfl⟩

set_option maxRecDepth 100000 in
set_option maxHeartbeats 4000000 in
theorem Insert_grow (g n i vb : Nat) (cur : Array Value) (x : Value) (w : World) (hi : i < n) (hn : n ≤ 100)
    (hcur : w.heap[g]? = some (.cells cur 234 (0, 0))) (hsz : cur.size = n) (hx : w.heap[vb]? = some (.cells #[x] 234 (0, 0))) (h1 : x.oneCell' = true)
    (h1c : ∀ u ∈ cur.toList.take n, u.oneCell' = true) :
    Calls Tryz.prog 258 #[.slice (some ⟨g, 0, none⟩) n n, .int .i64 i, .slice (some ⟨vb, 0, none⟩) 1 1] w fun e w' =>
      ∃ ROW : Array Value, ∃ G : Nat, ROW.size = G ∧ n + 1 ≤ G ∧ G ≤ maxLen ∧ ROW.toList.take i = (cur.toList.take n).take i ∧ e = .returned (.slice (some ⟨w.heap.size, 0, none⟩) (n + 1) G) ∧
      w' = ((((w.alloc (.cells ROW 234)).drew).setCells w.heap.size i [x]).drew).setCells w.heap.size (i + 1) ((cur.toList.take n).drop i) := by
  obtain ⟨i0, hi0, hz0, hzs, hzb⟩ := info_parts info_ptr
  have hz2 : ¬ ((i : Int) = (n : Int)) := by omega
  have hz3 : (n : Int) < (n : Int) + 1 := by omega
  have hsz1 : (Tryz.prog.info? 234).map (·.size) = some 1 := by rw [hi0]; simp [hzs]
  obtain ⟨cs, hcs⟩ : ∃ cs, cs = cur.toList.take n := ⟨_, rfl⟩
  rw [← hcs] at h1c ⊢
  have hcl : cs.length = n := by rw [hcs]; simp; omega
  have hcc : ∀ j u, cs[j]? = some u → w.cell? ⟨g, j, none⟩ = some u := fun j u hu => by
    rw [(blk_cells hcur j).1]
    rw [hcs, List.getElem?_take] at hu
    split at hu
    · simpa using hu
    · cases hu
  have hbw : g < w.heap.size := heap_lt hcur
  have hvw : vb < w.heap.size := heap_lt hx
  have hkk : (n : Int) + 1 - (i : Int) = ((n + 1 - i : Nat) : Int) := by omega
  have hik : i + (n + 1 - i) = n + 1 := by omega
  have hold : (Builtin.firstCells i0.size i (.slice (some ⟨g, 0, none⟩) i n)).run Tryz.prog w.drew = .ok (cs.take i).toArray w.drew := by
    rw [hzs]
    exact run_firstCells_some w.drew 1 i ⟨g, 0, none⟩ i n (cs.take i) (by rw [List.length_take]; omega) (fun j v hj => by
      rw [Addr.add_lit]
      rw [List.getElem?_take] at hj
      split at hj
      · show w.cell? _ = _
        rw [Nat.zero_add]; exact hcc j v hj
      · cases hj)
  obtain ⟨G, hG⟩ : ∃ G, G = grownCap w (n + 1) n 234 := ⟨_, rfl⟩
  obtain ⟨ROW, hROW⟩ : ∃ ROW : Array Value, ROW = (cs.take i).toArray ++ Builtin.zeroCells (Value.pointer none).cells (n + 1 - i) ++ Builtin.zeroCells (Value.pointer none).cells (G - (n + 1)) := ⟨_, rfl⟩
  have hrz : ∀ ty, (Builtin.append_ #[146, 3] ty #[.slice (some ⟨g, 0, none⟩) i n, .int .i64 ((n : Int) + 1 - (i : Int))]).run Tryz.prog w =
      .ok (.slice (some ⟨w.heap.size, 0, none⟩) (n + 1) G) (w.drew.alloc (.cells ROW 234)) := fun ty => by
    have h := Lib.run_append_grow_zeros w 146 3 ty 234 i0 _ .i64 .i64 Tryz.underlying146 Tryz.underlying3 hi0 hz0 (some ⟨g, 0, none⟩) i n (cs.take i) hold (n + 1 - i) (by omega) (by omega) (by omega) (by omega) (by rw [hzb]; omega) (by rw [hzb, hik]; exact growslice_fits (by omega) (by omega))
    rw [hik] at h
    rw [hkk, hROW, hG]
    exact h
  have hGn : n + 1 ≤ G := by rw [hG]; exact grownCap_ge w _ _ _
  have hG63 : G ≤ maxLen := by
    have := grownCap_le_maxLen w (n + 1) n 234 (by unfold maxLen; omega)
    rw [← hG] at this
    exact this
  have hRl : ROW.size = G := by
    rw [hROW]
    simp [Builtin.zeroCells, Value.cells]
    omega
  have hRt : ROW.toList.take i = cs.take i := by
    have hli : (cs.take i).length = i := by rw [List.length_take]; omega
    rw [hROW]
    simp only [Array.toList_append, List.append_assoc]
    rw [List.take_append_of_le_length (by simp only [hli]; exact Nat.le_refl _), List.take_take, Nat.min_self]
  obtain ⟨W1, hW1⟩ : ∃ W1, W1 = w.drew.alloc (.cells ROW 234) := ⟨_, rfl⟩
  have hN : ∀ j, j < n + 1 → (W1.cell? ⟨w.heap.size, j, none⟩).isSome = true := fun j hj => by
    rw [hW1, World.cell?_alloc_at (w := w.drew) ROW _ w.heap.size j rfl, Array.getElem?_eq_getElem (by omega)]; rfl
  have hNf : ∀ j, W1.frozen? ⟨w.heap.size, j, none⟩ = false := fun j => by rw [hW1]; exact World.frozen?_alloc_at (w := w.drew) ROW _ w.heap.size j rfl
  have hOb : ∀ j v, w.cell? ⟨g, j, none⟩ = some v → W1.cell? ⟨g, j, none⟩ = some v := fun j v h => by rw [hW1, World.cell?_alloc_past (w := w.drew) _ g j hbw]; exact h
  have hOv : ∀ j v, w.cell? ⟨vb, j, none⟩ = some v → W1.cell? ⟨vb, j, none⟩ = some v := fun j v h => by rw [hW1, World.cell?_alloc_past (w := w.drew) _ vb j hvw]; exact h
  have hcpA : ∀ (W : World), (∀ x, W.cell? x = W1.cell? x) → (∀ x, W.frozen? x = W1.frozen? x) → ∀ ty dc, (Builtin.copy_ #[146, 146] ty #[.slice (some ⟨w.heap.size, i, none⟩) (n + 1 - i) dc, .slice (some ⟨vb, 0, none⟩) 1 1]).run Tryz.prog W = .ok (goInt [x].length) (W.setCells w.heap.size i [x]) := fun W hWc hWf ty dc =>
    run_copy_cells W _ _ ty 234 w.heap.size i (n + 1 - i) dc ⟨vb, 0, none⟩ 1 1 [x] Tryz.underlying146 hsz1 (by simp only [Nat.min_def, List.length_cons, List.length_nil]; split <;> omega)
      (fun j v hj => by
        rw [Addr.add_lit, hWc]
        refine hOv _ v ?_
        rw [(blk_cells hx _).1, Nat.zero_add]
        simpa using hj)
      (fun j hj => by rw [hWc]; exact hN _ (by simp at hj; omega)) (fun j hj => by rw [hWf]; exact hNf _) (fun v hv => by simp at hv; subst hv; exact h1)
  have hG63' : G ≤ 9223372036854775807 := by unfold maxLen at hG63; omega
  have hGi : ¬ (G = i) := by omega
  have hGim : ¬ (G = i + 1) := by omega
  have hci : ¬ (n = i) := by omega
  have hbN : g ≠ w.heap.size := by omega
  have hdl : (cs.drop i).length = n - i := by rw [List.length_drop, hcl]
  have hcpB : ∀ (W : World), (∀ y, W.cell? y = (W1.setCells w.heap.size i [x]).cell? y) → (∀ y, W.frozen? y = (W1.setCells w.heap.size i [x]).frozen? y) → ∀ ty dc sc, (Builtin.copy_ #[146, 146] ty #[.slice (some ⟨w.heap.size, i + 1, none⟩) (n - i) dc, .slice (some ⟨g, i, none⟩) (n - i) sc]).run Tryz.prog W = .ok (goInt (cs.drop i).length) (W.setCells w.heap.size (i + 1) (cs.drop i)) := fun W hWc hWf ty dc sc =>
    run_copy_cells W _ _ ty 234 w.heap.size (i + 1) (n - i) dc ⟨g, i, none⟩ (n - i) sc (cs.drop i) Tryz.underlying146 hsz1 (by rw [hdl]; simp only [Nat.min_def]; split <;> omega)
      (fun j v hj => by
        rw [Addr.add_lit, hWc, World.cell?_setCells_out _ _ _ _ _ (fun h _ => absurd h hbN)]
        exact hOb _ v (hcc (i + j) v (by rwa [List.getElem?_drop] at hj)))
      (fun j hj => by rw [hWc]; exact isSome_setCells _ [x] i W1 (fun t ht => hN (i + t) (by simp at ht; omega)) _ (hN _ (by rw [hdl] at hj; omega)))
      (fun j hj => by rw [hWf, World.frozen?_setCells]; exact hNf _) (fun v hv => h1c v (List.mem_of_mem_drop hv))
  subst hW1
  have hE1 : ∀ y, ((w.alloc (.cells ROW 234)).drew).cell? y = (w.drew.alloc (.cells ROW 234)).cell? y := fun x => rfl
  have hE2 : ∀ y, ((w.alloc (.cells ROW 234)).drew).frozen? y = (w.drew.alloc (.cells ROW 234)).frozen? y := fun x => rfl
  have hF1 : ∀ y, (((w.alloc (.cells ROW 234)).drew.setCells w.heap.size i [x]).drew).cell? y = ((w.drew.alloc (.cells ROW 234)).setCells w.heap.size i [x]).cell? y := fun x => rfl
  have hF2 : ∀ y, (((w.alloc (.cells ROW 234)).drew.setCells w.heap.size i [x]).drew).frozen? y = ((w.drew.alloc (.cells ROW 234)).setCells w.heap.size i [x]).frozen? y := fun x => rfl
  have hA := hcpA _ hE1 hE2
  have hB := hcpB _ hF1 hF2
  have hw1 : IntKind.i64.wrap ((i : Int) + 1) = (i : Int) + 1 := by rw [IntKind.wrap_i64]; omega
  have hb1 : (0 : Int) ≤ (i : Int) + 1 := by omega
  have hin : i ≤ n := by omega
  have htn : ((i : Int) + 1).toNat = i + 1 := by omega
  have hb3 : (i : Int) ≤ (n : Int) := by omega
  have HRL := Lib.hid hRl
  have HRT := Lib.hid hRt
  have HG63 := Lib.hid hG63
  clear hkk hik hold hROW hG hRl hRt hcpA hcpB hN hNf hOb hOv hE1 hE2 hF1 hF2 hcs hcc hcl hdl hx hcur h1c hsz hG63
  go_enter Tryz.func258, Tryz.ntmps258
  go_wp2_with (first
    | (at_builtin; refine Lib.wpList_append_run _ rfl _ _ _ _ rfl _ _ rfl rfl _ _ (hrz _) ?_)
    | (at_builtin; refine wpList_copy_runI _ rfl _ _ 146 146 rfl _ _ rfl rfl (hA _ _) ?_))
  go_region_law (refine step_copy_runI rfl _ _ 146 146 rfl (.slice (some ⟨w.heap.size, i + 1, none⟩) (n - i) (G - (i + 1))) (.slice (some ⟨g, i, none⟩) (n - i) (n - i)) (by simp [Act.eval, Act.put]) (by simp [Act.eval, Act.put]) (hB 3 (G - (i + 1)) (n - i)) ?_)
  go_wp2
  go_ret
  exact ⟨ROW, G, HRL.out, hGn, HG63.out, HRT.out, rfl, rfl⟩

theorem take_eq_cells {cur : Array Value} {n : Nat} {xs : List Value} (h : cur.toList.take n = xs) : xs.length ≤ cur.size := by
  rw [← h]; simp; omega

theorem ins_get (xs : List Value) (x : Value) (i : Nat) (hi : i ≤ xs.length) (j : Nat) (u : Value) (h : (xs.take i ++ x :: xs.drop i)[j]? = some u) :
    (j < i ∧ (xs.take i)[j]? = some u) ∨ (j = i ∧ u = x) ∨ (∃ t, j = i + 1 + t ∧ (xs.drop i)[t]? = some u) := by
  have hl : (xs.take i).length = i := by rw [List.length_take]; omega
  by_cases h1 : j < i
  · rw [List.getElem?_append_left (by omega)] at h
    exact .inl ⟨h1, h⟩
  · rw [List.getElem?_append_right (by omega), hl] at h
    by_cases h2 : j = i
    · subst h2
      simp at h
      exact .inr (.inl ⟨rfl, h.symm⟩)
    · obtain ⟨t, rfl⟩ : ∃ t, j = i + 1 + t := ⟨j - i - 1, by omega⟩
      rw [show i + 1 + t - i = t + 1 by omega, List.getElem?_cons_succ] at h
      exact .inr (.inr ⟨t, rfl, h⟩)

/-- slices.Insert of one address at place i into a row that is owned. -/
theorem Insert_any (v : Value) (n i vb : Nat) (xs : List Value) (x : Value) (w : World) (hn : n ≤ 100) (hi : i ≤ n) (hown : w.ownsRow 0 234 1 v n xs) (hx : w.heap[vb]? = some (.cells #[x] 234 (0, 0))) (h1 : x.oneCell' = true)
    (hne : v.ownBlock ≠ some vb) (h1c : ∀ u ∈ xs, u.oneCell' = true) :
    Calls Tryz.prog 258 #[v, .int .i64 i, .slice (some ⟨vb, 0, none⟩) 1 1] w (InsPost w v (n + 1) (xs.take i ++ x :: xs.drop i)) := by
  have hxl : xs.length = n := by have := hown.1; omega
  by_cases hin : i = n
  · subst hin
    rw [List.take_of_length_le (by omega), List.drop_eq_nil_of_le (by omega)]
    exact Insert_end v i vb xs x w hn hown hx h1
  · rcases hown.2 with ⟨rfl, rfl⟩ | ⟨g, cap, cur, rfl, _, hg, hnc, hcm, hcs, htk⟩
    · exact absurd (Nat.le_zero.1 hi) hin
    · rw [Nat.mul_one] at hcs htk
      have hgv : vb ≠ g := fun e => hne (by rw [e]; rfl)
      have hcells : ∀ j u, xs[j]? = some u → w.cell? ⟨g, j, none⟩ = some u := fun j u hu => by
        have := hown.cells (g := g) rfl j u hu
        rwa [show (⟨g, 0, none⟩ : Addr).add j = ⟨g, j, none⟩ from by unfold Addr.add; split <;> simp_all] at this
      by_cases hroom : n + 1 ≤ cap
      · refine (Insert_shift g n cap i vb cur x w (by omega) hn hroom hcm hg hcs hx h1 hgv (by rw [htk]; exact h1c)).mono ?_
        rintro e w' ⟨rfl, rfl⟩
        rw [htk]
        obtain ⟨c1, hc1, hs1⟩ := shape_setCells g (xs.drop i) (i + 1) w.drew cur _ hg
        obtain ⟨c2, hc2, hs2⟩ := shape_setCells g [x] i _ c1 _ hc1
        have hsome : ∀ j, j < cap → (w.drew.cell? ⟨g, j, none⟩).isSome = true := fun j hj => by
          show (w.cell? _).isSome = true
          rw [(blk_cells hg j).1, Array.getElem?_eq_getElem (by omega)]; rfl
        have hdl : (xs.drop i).length = n - i := by rw [List.length_drop]; omega
        have hsome1 : ∀ j, j < cap → ((w.drew.setCells g (i + 1) (xs.drop i)).cell? ⟨g, j, none⟩).isSome = true := fun j hj =>
          isSome_setCells g (xs.drop i) (i + 1) w.drew (fun t ht => hsome _ (by omega)) j (hsome j hj)
        refine ⟨_, rfl, own_of_cells hc2 (by omega) hroom hcm (by simp; omega) ?_, World.grownBy.trans (World.grownBy.trans (b := w.drew) ⟨rfl, rfl, rfl, Nat.le_refl _, fun _ _ _ => rfl⟩ (grown_setCells g _ _ _)) (grown_setCells g _ _ _), .inl rfl⟩
        intro j u hu
        rcases ins_get xs x i (by omega) j u hu with ⟨hj, h⟩ | ⟨rfl, rfl⟩ | ⟨t, rfl, h⟩
        · rw [World.cell?_setCells_out g [x] i _ _ (fun _ _ => .inl hj), World.cell?_setCells_out g _ _ _ _ (fun _ _ => .inl (show j < i + 1 by omega))]
          rw [List.getElem?_take, if_pos hj] at h
          exact hcells j u h
        · exact World.cell?_setCells_in g [u] j _ (fun t ht => hsome1 _ (by simp at ht; omega)) 0 (by simp)
        · have htl : t < (xs.drop i).length := by
            rcases Nat.lt_or_ge t (xs.drop i).length with h' | h'
            · exact h'
            · rw [List.getElem?_eq_none h'] at h; cases h
          rw [World.cell?_setCells_out g [x] i _ _ (fun _ _ => .inr (by simp)), World.cell?_setCells_in g (xs.drop i) (i + 1) w.drew (fun s hs => hsome _ (by omega)) t htl]
          rw [List.getElem?_eq_getElem htl] at h
          exact h
      · obtain rfl : cap = n := by omega
        refine (Insert_grow g cap i vb cur x w (by omega) hn hg hcs hx h1 (by rw [htk]; exact h1c)).mono ?_
        rintro e w' ⟨ROW, G, hRs, hnG, hGm, hRt, rfl, rfl⟩
        rw [htk] at hRt ⊢
        have hb0 : ((w.alloc (.cells ROW 234)).drew).heap[w.heap.size]? = some (.cells ROW 234 (0, 0)) := heap_alloc_new w _
        obtain ⟨c1, hc1, hs1⟩ := shape_setCells w.heap.size [x] i _ ROW _ hb0
        have hc1' : ((((w.alloc (.cells ROW 234)).drew).setCells w.heap.size i [x]).drew).heap[w.heap.size]? = some (.cells c1 234 (0, 0)) := hc1
        obtain ⟨c2, hc2, hs2⟩ := shape_setCells w.heap.size (xs.drop i) (i + 1) _ c1 _ hc1'
        have hsome : ∀ j, j < G → (((w.alloc (.cells ROW 234)).drew).cell? ⟨w.heap.size, j, none⟩).isSome = true := fun j hj => by
          rw [(blk_cells hb0 j).1, Array.getElem?_eq_getElem (by omega)]; rfl
        have hdl : (xs.drop i).length = cap - i := by rw [List.length_drop]; omega
        have hsome1 : ∀ j, j < G → (((((w.alloc (.cells ROW 234)).drew).setCells w.heap.size i [x]).drew).cell? ⟨w.heap.size, j, none⟩).isSome = true := fun j hj =>
          isSome_setCells w.heap.size [x] i _ (fun t ht => hsome _ (by simp at ht; omega)) j (hsome j hj)
        have gr : w.grownBy (((((w.alloc (.cells ROW 234)).drew).setCells w.heap.size i [x]).drew).setCells w.heap.size (i + 1) (xs.drop i)) (some g) := by
          have a1 : w.grownBy ((w.alloc (.cells ROW 234)).drew) (some g) := by
            have := World.grownBy_alloc w (.cells ROW 234) (some g)
            exact ⟨this.os, this.tape, this.output, this.size, this.block⟩
          have a2 := grown_setCells w.heap.size [x] i ((w.alloc (.cells ROW 234)).drew)
          have a3 := grown_setCells w.heap.size (xs.drop i) (i + 1) ((((w.alloc (.cells ROW 234)).drew).setCells w.heap.size i [x]).drew)
          refine ⟨?_, ?_, ?_, ?_, fun k hk hn => ?_⟩
          · exact a3.os.trans (a2.os.trans a1.os)
          · exact a3.tape.trans (a2.tape.trans a1.tape)
          · exact a3.output.trans (a2.output.trans a1.output)
          · exact Nat.le_trans a1.size (Nat.le_trans a2.size a3.size)
          · have hks : k < ((w.alloc (.cells ROW 234)).drew).heap.size := by simp; omega
            have hkn : some k ≠ some w.heap.size := fun e => by injection e with e; omega
            exact (a3.block k (Nat.lt_of_lt_of_le hks a2.size) hkn).trans ((a2.block k hks hkn).trans (a1.block k hk hn))
        refine ⟨_, rfl, own_of_cells hc2 (by omega) hnG hGm (by simp; omega) ?_, gr, .inr ⟨_, rfl, Nat.le_refl _⟩⟩
        intro j u hu
        rcases ins_get xs x i (by omega) j u hu with ⟨hj, h⟩ | ⟨rfl, rfl⟩ | ⟨t, rfl, h⟩
        · rw [World.cell?_setCells_out _ _ _ _ _ (fun _ _ => .inl (show j < i + 1 by omega))]
          show (((w.alloc (.cells ROW 234)).drew).setCells w.heap.size i [x]).cell? _ = _
          rw [World.cell?_setCells_out _ [x] i _ _ (fun _ _ => .inl hj), (blk_cells hb0 j).1]
          rw [← hRt, List.getElem?_take, if_pos hj] at h
          simpa using h
        · rw [World.cell?_setCells_out _ _ _ _ _ (fun _ _ => .inl (show j < j + 1 by omega))]
          exact World.cell?_setCells_in w.heap.size [u] j _ (fun t ht => hsome _ (by simp at ht; omega)) 0 (by simp)
        · have htl : t < (xs.drop i).length := by
            rcases Nat.lt_or_ge t (xs.drop i).length with h' | h'
            · exact h'
            · rw [List.getElem?_eq_none h'] at h; cases h
          rw [World.cell?_setCells_in w.heap.size (xs.drop i) (i + 1) _ (fun s hs => hsome1 _ (by omega)) t htl]
          rw [List.getElem?_eq_getElem htl] at h
          exact h
end Go.Proofs.YtplocldnklccfaaGreatDoor
namespace Go.Proofs.YtplocldnklccfaaGreatDoor
open Go.RowKit
set_option linter.unusedVariables false
set_option linter.unusedSimpArgs false

set_option maxRecDepth 100000 in
theorem order_any (na nb : Nat) (a b : ByteArray) (w : World) (ha : w.cell? ⟨na, 0, none⟩ = some (.string a)) (hb : w.cell? ⟨nb, 0, none⟩ = some (.string b)) :
    Calls Tryz.prog 257 #[.pointer (some ⟨na, 0, none⟩), .pointer (some ⟨nb, 0, none⟩)] w fun e w' => e = .returned (.int .i64 (cmpB a b)) ∧ ∃ q, w' = w.drewN q := by
  go_enter Tryz.func257, Tryz.ntmps257
  go_wp2
  go_quiet ((go_at_call 218; exact Calls.quiet_of_same (Tryz.strings_Compare a b _)))
  go_wp2
  go_ret
  exact ⟨rfl, _, rfl⟩

structure SearchRes (ns : List ByteArray) (t : ByteArray) (w : World) (e : Ending) (w' : World) : Prop where
  val : ∃ (i : Nat) (f : Bool), i ≤ ns.length ∧ (∀ j (hj : j < ns.length), j < i → cmpB ns[j] t < 0) ∧ (∀ j (hj : j < ns.length), i ≤ j → 0 ≤ cmpB ns[j] t) ∧ e = .returned (.tuple #[.int .i64 i, .bool f])
  drew : ∃ q, w' = w.drewN q

structure SearchInv (ns : List ByteArray) (t : ByteArray) (w : World) (i j : Value) (wr : World) (a b : Nat) : Prop where
  ab : a ≤ b
  bl : b ≤ ns.length
  ia : i = .int .i64 (a : Int)
  jb : j = .int .i64 (b : Int)
  lo : ∀ k (hk : k < ns.length), k < a → cmpB ns[k] t < 0
  hi : ∀ k (hk : k < ns.length), b ≤ k → 0 ≤ cmpB ns[k] t
  drew : ∃ q, wr = w.drewN q

set_option maxRecDepth 100000 in
set_option maxHeartbeats 2000000 in
theorem search_any (ns : List ByteArray) (nb : ByteArray → Nat) (A : Option Addr) (c tb : Nat) (t : ByteArray) (w : World) (hn : ns.length ≤ 100)
    (hA : ∀ j (hj : j < ns.length), ∃ ad, A = some ad ∧ w.cell? (ad.add j) = some (.pointer (some ⟨nb ns[j], 0, none⟩)))
    (hN : ∀ j (hj : j < ns.length), w.cell? ⟨nb ns[j], 0, none⟩ = some (.string ns[j])) (ht : w.cell? ⟨tb, 0, none⟩ = some (.string t))
    (hmono : ∀ i j (hi : i < ns.length) (hj : j < ns.length), i ≤ j → cmpB ns[j] t < 0 → cmpB ns[i] t < 0) :
    Calls Tryz.prog 256 #[.slice A ns.length c, .pointer (some ⟨tb, 0, none⟩), .func (.func 257) #[] #[]] w (SearchRes ns t w) := by
  have HA := Lib.hid hA
  have HN := Lib.hid hN
  have HT := Lib.hid ht
  have HM := Lib.hid hmono
  clear hA hN ht hmono
  go_enter Tryz.func256, Tryz.ntmps256
  go_wp2
  go_loopw [9, 10] (fun i j wr => ∃ a b, SearchInv ns t w i j wr a b) (fun i j _ => ((intOf j).toNat - (intOf i).toNat))
  case atStart => exact ⟨0, ns.length, Nat.zero_le _, Nat.le_refl _, rfl, rfl, fun _ _ h => absurd h (by omega), fun _ _ h => absurd h (by omega), 0, rfl⟩
  case round =>
    obtain ⟨a, b, hab, hbl, rfl, rfl, hlo, hhi, q, rfl⟩ := hrel
    have HLO := Lib.hid hlo
    have HHI := Lib.hid hhi
    clear hlo hhi
    by_cases hlt : a < b
    · obtain ⟨h, hh⟩ : ∃ h, h = (a + b) / 2 := ⟨_, rfl⟩
      have h1 : a ≤ h := by omega
      have h2 : h < b := by omega
      have hnl : h < ns.length := by omega
      obtain ⟨ad, rfl, hc0⟩ := HA.out h hnl
      have hnm := HN.out h hnl
      obtain ⟨s, hs⟩ : ∃ s, s = ns[h] := ⟨_, rfl⟩
      rw [← hs] at hc0 hnm
      have hcq : (w.drewN q).cell? (ad.add h) = some (.pointer (some ⟨nb s, 0, none⟩)) := hc0
      have hord := order_any (nb s) tb s t (w.drewN q) hnm HT.out
      have HS := Lib.hid hs
      have HH := Lib.hid hh
      clear hs hc0 hnm hh
      have eh : ((a : Int) + (b : Int)) / 2 = (h : Int) := by rw [HH.out]; omega
      by_cases hc : cmpB s t < 0
      · go_wp2_with (go_at_call 257; refine hord.mono ?_; rintro e w' ⟨rfl, q2, rfl⟩)
        go_roundw
        case rel => exact ⟨h + 1, b, by omega, hbl, by go_num, rfl, fun k hk hlt' => by
            have hm := HM.out k h hk hnl (by omega)
            rw [← HS.out] at hm
            exact hm hc, HHI.out, q + q2, rfl⟩
        case measure => simp only [intOf]; omega
      · go_wp2_with (go_at_call 257; refine hord.mono ?_; rintro e w' ⟨rfl, q2, rfl⟩)
        go_roundw
        case rel => exact ⟨a, h, by omega, by omega, rfl, rfl, HLO.out, fun k hk hle => by
            have hm := HM.out h k hnl hk hle
            rw [← HS.out] at hm
            omega, q + q2, rfl⟩
        case measure => simp only [intOf]; omega
    · obtain rfl : a = b := by omega
      by_cases hal : a < ns.length
      · obtain ⟨ad, rfl, hc0⟩ := HA.out a hal
        have hnm := HN.out a hal
        obtain ⟨s, hs⟩ : ∃ s, s = ns[a] := ⟨_, rfl⟩
        rw [← hs] at hc0 hnm
        have hcq : (w.drewN q).cell? (ad.add a) = some (.pointer (some ⟨nb s, 0, none⟩)) := hc0
        have hord := order_any (nb s) tb s t (w.drewN q) hnm HT.out
        have HS := Lib.hid hs
        clear hs hc0 hnm
        have hd : decide ((a : Int) < (ns.length : Int)) = true := decide_eq_true (by omega)
        go_wp2_with (go_at_call 257; refine hord.mono ?_; rintro e w' ⟨rfl, q2, rfl⟩)
        go_ret2
        exact ⟨⟨a, _, by omega, HLO.out, HHI.out, rfl⟩, q + q2, rfl⟩
      · have hd : decide ((a : Int) < (ns.length : Int)) = false := decide_eq_false (by omega)
        go_wp2_with fail
        go_ret2
        exact ⟨⟨a, _, by omega, HLO.out, HHI.out, rfl⟩, q, rfl⟩
end Go.Proofs.YtplocldnklccfaaGreatDoor
namespace Go.Proofs.YtplocldnklccfaaGreatDoor
open Go.RowKit
set_option linter.unusedVariables false
set_option linter.unusedSimpArgs false

theorem own_slice2 {w : World} {B e n : Nat} {v : Value} {xs : List Value} (h : w.ownsRow B e 1 v n xs) : ∃ A c, v = .slice A n c ∧ ∀ j u, xs[j]? = some u → ∃ ad, A = some ad ∧ w.cell? (ad.add j) = some u := by
  rcases h.2 with ⟨rfl, rfl⟩ | ⟨g, cap, cur, rfl, hb, hg, r⟩
  · have hx : xs = [] := by simpa using h.1
    subst hx
    exact ⟨none, 0, rfl, fun j u hu => by simp at hu⟩
  · exact ⟨_, cap, rfl, fun j u hu => ⟨_, rfl, h.cells (g := g) rfl j u hu⟩⟩

structure PutPost (ns : List ByteArray) (ps : List Value) (t : ByteArray) (p : Value) (w : World) (v : Value) (e : Ending) (w' : World) : Prop where
  ex : ∃ i v', i ≤ ns.length ∧ (∀ j (hj : j < ns.length), j < i → cmpB ns[j] t < 0) ∧ (∀ j (hj : j < ns.length), i ≤ j → 0 ≤ cmpB ns[j] t) ∧ e = .returned v' ∧
    w'.ownsRow 0 234 1 v' (ns.length + 1) (ps.take i ++ p :: ps.drop i) ∧ w.grownBy w' v.ownBlock ∧ (v'.ownBlock = v.ownBlock ∨ ∃ k, v'.ownBlock = some k ∧ w.heap.size ≤ k)

set_option maxRecDepth 100000 in
set_option maxHeartbeats 1000000 in
theorem put_any (ns : List ByteArray) (nb : ByteArray → Nat) (v : Value) (tb : Nat) (t : ByteArray) (w : World) (hn : ns.length ≤ 99)
    (hown : w.ownsRow 0 234 1 v ns.length (ns.map fun s => .pointer (some ⟨nb s, 0, none⟩)))
    (hN : ∀ j (hj : j < ns.length), w.cell? ⟨nb ns[j], 0, none⟩ = some (.string ns[j])) (ht : w.cell? ⟨tb, 0, none⟩ = some (.string t))
    (hmono : ∀ i j (hi : i < ns.length) (hj : j < ns.length), i ≤ j → cmpB ns[j] t < 0 → cmpB ns[i] t < 0) :
    Calls Tryz.prog 247 #[v, .pointer (some ⟨tb, 0, none⟩)] w (PutPost ns (ns.map fun s => .pointer (some ⟨nb s, 0, none⟩)) t (.pointer (some ⟨tb, 0, none⟩)) w v) := by
  obtain ⟨A, c, rfl, hcell⟩ := own_slice2 hown
  have hs := search_any ns nb A c tb t w (by omega) (fun j hj => hcell j _ (by simp [hj])) hN ht hmono
  have HO := Lib.hid hown
  clear hown hcell hN ht hmono
  go_enter Tryz.func247, Tryz.ntmps247
  go_wp2_with (go_at_call 256; refine hs.mono ?_; rintro e w' ⟨⟨i, f, hi, hlo, hhi, rfl⟩, q, rfl⟩; have HLO := Lib.hid hlo; have HHI := Lib.hid hhi; clear hlo hhi)
  have ho : ((w.drewN q).alloc (.cells #[.pointer (some ⟨tb, 0, none⟩)] 234)).ownsRow 0 234 1 (.slice A ns.length c) ns.length (ns.map fun s => .pointer (some ⟨nb s, 0, none⟩)) := by
    have : (w.drewN q).ownsRow 0 234 1 (.slice A ns.length c) ns.length (ns.map fun s => .pointer (some ⟨nb s, 0, none⟩)) := HO.out
    exact this.alloc _
  have hnew := heap_alloc_new (w.drewN q) (.cells #[.pointer (some ⟨tb, 0, none⟩)] 234)
  have hlt := fun k hk => (HO.out.lt k hk).2
  have hins := Insert_any (.slice A ns.length c) ns.length i w.heap.size (ns.map fun s => .pointer (some ⟨nb s, 0, none⟩)) (.pointer (some ⟨tb, 0, none⟩)) _ (by omega) hi ho hnew rfl (fun e => by have := hlt _ e; omega) (by simp [Value.oneCell'])
  clear ho hnew hlt
  go_wp2_with (go_at_call 258; refine hins.mono ?_; rintro e w' ⟨v', rfl, hown', hg, hat⟩)
  go_ret
  refine ⟨i, v', hi, HLO.out, HHI.out, rfl, hown', ?_, ?_⟩
  · have a1 := World.grownBy_alloc (w.drewN q) (.cells #[.pointer (some ⟨tb, 0, none⟩)] 234) (Value.slice A ns.length c).ownBlock
    have a2 : w.grownBy ((w.drewN q).alloc (.cells #[.pointer (some ⟨tb, 0, none⟩)] 234)) (Value.slice A ns.length c).ownBlock := ⟨a1.os, a1.tape, a1.output, a1.size, a1.block⟩
    exact a2.trans hg
  · rcases hat with h | ⟨k, h, hk⟩
    · exact .inl h
    · exact .inr ⟨k, h, by simp at hk; omega⟩
end Go.Proofs.YtplocldnklccfaaGreatDoor
namespace Go.Proofs.YtplocldnklccfaaGreatDoor
open Go.RowKit
set_option linter.unusedVariables false
set_option linter.unusedSimpArgs false

theorem bad_any (s : ByteArray) (w : World) (hm : s.size ≤ maxLen) :
    Calls Tryz.prog 23 #[.string s] w fun e w' => e = .returned (.bool (!partB s.data.toList)) ∧ w = w' := by
  go_enter Tryz.func23, Tryz.ntmps23
  go_wp2_with (go_at_call 24; refine (part_any _ _ hm).mono ?_; rintro e w' ⟨rfl, rfl⟩)
  go_ret
  exact ⟨rfl, rfl⟩

structure BadIdx (ps : List ByteArray) (i : Int) : Prop where
  ok : (i = -1 ∧ ∀ p ∈ ps, partB p.data.toList = true) ∨ (0 ≤ i ∧ ∃ p ∈ ps, partB p.data.toList = false)
structure IdxRes (ps : List ByteArray) (w : World) (e : Ending) (w' : World) : Prop where
  val : ∃ i : Int, e = .returned (.int .i64 i) ∧ BadIdx ps i
  same : w = w'
structure IdxInv (ps : List ByteArray) (i : Value) (k : Nat) : Prop where
  le : k ≤ ps.length
  at_ : i = .int .i64 (k : Int)
  all : ∀ j (hj : j < ps.length), j < k → partB (ps[j]).data.toList = true

set_option maxHeartbeats 1000000 in
theorem index_any (ps : List ByteArray) (b c : Nat) (w : World) (hn : ps.length ≤ maxLen) (hs : ∀ p ∈ ps, p.size ≤ maxLen)
    (hc : ∀ j (hj : j < ps.length), w.cell? ⟨b, j, none⟩ = some (.string ps[j])) :
    Calls Tryz.prog 79 #[.slice (some ⟨b, 0, none⟩) ps.length c, .func (.func 23) #[] #[]] w (IdxRes ps w) := by
  unfold maxLen at hn
  have HC := Lib.hid hc
  have HS := Lib.hid hs
  clear hc hs
  go_enter Tryz.func79, Tryz.ntmps79
  go_wp2
  go_loop [8] (fun i => ∃ k : Nat, IdxInv ps i k) (fun i => ps.length - (intOf i).toNat)
  case atStart => exact ⟨0, Nat.zero_le _, rfl, fun _ _ h => absurd h (by omega)⟩
  case round =>
    obtain ⟨k, hk, rfl, hall⟩ := hrel
    have HA := Lib.hid hall
    clear hall
    by_cases hlt : k < ps.length
    · have hcell := HC.out k hlt
      have hsz := HS.out _ (List.getElem_mem hlt)
      obtain ⟨p, hp⟩ : ∃ p, p = ps[k] := ⟨_, rfl⟩
      rw [← hp] at hcell hsz
      have HP := Lib.hid hp
      clear hp
      by_cases hb : partB p.data.toList = true
      · go_wp2_with (go_at_call 23; refine (bad_any _ _ hsz).mono ?_; rintro e w' ⟨rfl, rfl⟩)
        go_round
        case rel => exact ⟨k + 1, by omega, by go_num, fun j hj hjk => by
            by_cases e : j = k
            · subst e; rw [← HP.out]; exact hb
            · exact HA.out j hj (by omega)⟩
        case measure => simp [intOf]; omega
      · have hb' : partB p.data.toList = false := by simpa using hb
        go_wp2_with (go_at_call 23; refine (bad_any _ _ hsz).mono ?_; rintro e w' ⟨rfl, rfl⟩)
        go_ret
        exact ⟨⟨_, rfl, ⟨.inr ⟨by omega, p, by rw [HP.out]; exact List.getElem_mem hlt, hb'⟩⟩⟩, rfl⟩
    · go_wp2
      go_ret
      exact ⟨⟨_, rfl, ⟨.inl ⟨rfl, fun p hp => by
        obtain ⟨j, hj, rfl⟩ := List.getElem_of_mem hp
        exact HA.out j hj (by omega)⟩⟩⟩, rfl⟩

theorem contains_any (ps : List ByteArray) (b c : Nat) (w : World) (hn : ps.length ≤ maxLen) (hs : ∀ p ∈ ps, p.size ≤ maxLen)
    (hc : ∀ j (hj : j < ps.length), w.cell? ⟨b, j, none⟩ = some (.string ps[j])) :
    Calls Tryz.prog 22 #[.slice (some ⟨b, 0, none⟩) ps.length c, .func (.func 23) #[] #[]] w fun e w' => e = .returned (.bool (ps.any fun p => !partB p.data.toList)) ∧ w = w' := by
  obtain ⟨R, hR⟩ : ∃ R, R = (ps.any fun p => !partB p.data.toList) := ⟨_, rfl⟩
  rw [← hR]
  have HR := Lib.hid hR
  clear hR
  go_enter Tryz.func22, Tryz.ntmps22
  go_wp2_with (go_at_call 79; refine (index_any ps b c _ hn hs hc).mono ?_; rintro e w' ⟨⟨i, rfl, hi⟩, rfl⟩)
  go_ret
  rcases hi.ok with ⟨rfl, h⟩ | ⟨h0, p, hp, hb⟩
  · refine ⟨ret_bool ?_, rfl⟩
    rw [HR.out, eq_comm]
    simpa using h
  · refine ⟨ret_bool ?_, rfl⟩
    rw [HR.out, eq_comm]
    simp only [h0, decide_true, ge_iff_le, List.any_eq_true]
    exact ⟨p, hp, by simp [hb]⟩

section
open Go.Shelf Go.Lib
variable {P : Program} {ρ : Ren}
set_option maxHeartbeats 1000000 in
/-- strings.Split at a sep of one byte: no variable of the library's is read. -/
theorem split_one (L : Lays.n146 P ρ) (hi9 : (P.info? (ρ.t 9)).map (fun i => (i.zero, i.size, i.bytes)) = some (some (.string ByteArray.empty), 1, 16)) (s : ByteArray) (c : UInt8) (w : World) (hs : s.size < 4294967281) :
    Calls P (ρ.f 146) #[.string s, .string ⟨#[c]⟩] w fun e w' =>
      e = .returned (.slice (some ⟨w.heap.size, 0, none⟩) (countB s ⟨#[c]⟩ + 1) (countB s ⟨#[c]⟩ + 1)) ∧ w' = w.alloc (.cells ((splitB ⟨#[c]⟩ 0 (countB s ⟨#[c]⟩) s).map Value.string).toArray (ρ.t 9)) := by
  obtain ⟨sep, hsep⟩ : ∃ sep : ByteArray, sep = ⟨#[c]⟩ := ⟨_, rfl⟩
  have h1 : 1 ≤ sep.size := by rw [hsep]; exact Nat.le_refl 1
  have hle := countB_le sep h1 s.size s (Nat.le_refl _)
  have hlen := splitB_all sep h1 0 _ s rfl
  have hI : ∀ (x : ByteArray) (cc : Array Value), x.size ≤ s.size → Calls P (ρ.f 143) #[.string x, .string sep] (w.alloc (.cells cc (ρ.t 9))) fun e w' => e = .returned (.int .i64 (indexB x sep)) ∧ w' = w.alloc (.cells cc (ρ.t 9)) := fun x cc _ => by
    subst hsep
    refine (Any.strings_Index_one { L with } x c _).mono fun e w' ⟨he, hw⟩ => ⟨?_, hw⟩
    rw [he]
    exact ret_int (index_one _ _).symm
  have hC : Calls P (ρ.f 138) #[.string s, .string sep] w fun e w' => e = .returned (.int .i64 (countB s sep)) ∧ w' = w := by
    subst hsep
    refine (Any.strings_Count_one { L with } s c w).mono fun e w' ⟨he, hw⟩ => ⟨?_, hw⟩
    rw [he]
    show _ = Ending.returned (Value.int .i64 ((count s.data.toList [c] : Nat) : Int))
    rw [count_one]
    rfl
  have cc := Any.strings_genSplit_core { L with } hi9 s sep 0 (-1) (countB s sep + 1) w hs h1 (Nat.zero_le _) hI hC (by decide) (by decide) (by rw [if_pos (by decide)]; omega)
  rw [Nat.add_sub_cancel, hlen] at cc
  have e2 : cellsOf (splitB sep 0 (countB s sep) s) (countB s sep + 1) = ((splitB sep 0 (countB s sep) s).map Value.string).toArray := by rw [← hlen]; exact cellsOf_full _
  rw [e2] at cc
  rw [← hsep]
  clear hI hC
  have t3 := L.t3; have t9 := L.t9; have t31 := L.t31
  have a3 := L.a3; have a9 := L.a9; have a31 := L.a31
  have z3 := L.z3; have v3 := L.v3; have z9 := L.z9; have v9 := L.v9; have z31 := L.z31; have v31 := L.v31
  have e221 : ∀ args w, (callFunc (ρ.f 221) args).run P w = .ok (.enter (ρ.f 221) args) w := enters_of L.f221 (by kernel_rfl) rfl
  clear hsep
  go_enter L.f146, Body.n146_ntmps ρ
  go_wp2_with (go_at_fn (ρ.f 221); refine cc.mono ?_; rintro e w' ⟨rfl, hw⟩; rw [hw])
  go_ret
  exact ⟨rfl, rfl⟩
end

/-- The pieces, as strings. -/
def piecesB (s : ByteArray) : List ByteArray := Lib.splitB ⟨#[58]⟩ 0 (Lib.countB s ⟨#[58]⟩) s
theorem pieces_length (s : ByteArray) : (piecesB s).length = Lib.countB s ⟨#[58]⟩ + 1 := Lib.splitB_all ⟨#[58]⟩ (Nat.le_refl 1) 0 _ s rfl
theorem pieces_data (s : ByteArray) : (piecesB s).map (·.data.toList) = splitC 58 s.data.toList := splitB_one 58 s
theorem splitB_size (sep : ByteArray) : ∀ (k : Nat) (s : ByteArray), ∀ p ∈ Lib.splitB sep 0 k s, p.size ≤ s.size
  | 0, s => by simp [Lib.splitB]
  | k + 1, s => by
    unfold Lib.splitB
    intro p hp
    split at hp
    · simp at hp; simp [hp]
    · rcases List.mem_cons.1 hp with rfl | hp
      · simp; omega
      · have := splitB_size sep k _ p hp
        simp at this
        omega

theorem Split_any (s : ByteArray) (w : World) (hs : s.size ≤ 102) :
    Calls Tryz.prog 21 #[.string s, .string ⟨#[58]⟩] w fun e w' => e = .returned (.slice (some ⟨w.heap.size, 0, none⟩) (piecesB s).length (piecesB s).length) ∧ w.alloc (.cells ((piecesB s).map Value.string).toArray 9) = w' := by
  refine (split_one Tryz.lays146 (by kernel_rfl) s 58 w (by omega)).mono fun e w' ⟨he, hw⟩ => ⟨?_, hw.symm⟩
  rw [he, pieces_length]

theorem good_eq (s : ByteArray) : goodB s.data.toList = (decide (s.size ≤ 102) && (decide ((piecesB s).length ≤ 6) && !(piecesB s).any fun p => !partB p.data.toList)) := by
  unfold goodB
  rw [data_len, ← pieces_data, List.length_map, List.any_map]
  rfl

set_option maxHeartbeats 1000000 in
theorem Good_any (s : ByteArray) (w : World) (hm : s.size ≤ maxLen) :
    Calls Tryz.prog 6 #[.string s] w fun e w' => e = .returned (.bool (goodB s.data.toList)) ∧ Below w.heap.size w w' := by
  unfold maxLen at hm
  obtain ⟨R, hR⟩ : ∃ R, R = goodB s.data.toList := ⟨_, rfl⟩
  rw [← hR]
  rw [good_eq] at hR
  have HR := Lib.hid hR
  clear hR
  by_cases h : s.size ≤ 102
  · have h1 : ¬ ((102 : Int) < s.size) := by omega
    have hps : ∀ p ∈ piecesB s, p.size ≤ maxLen := fun p hp => by
      have := splitB_size _ _ _ p hp
      unfold maxLen; omega
    have hpl : (piecesB s).length ≤ 103 := by
      rw [pieces_length]
      have := Lib.countB_le ⟨#[58]⟩ (Nat.le_refl 1) s.size s (Nat.le_refl _)
      omega
    obtain ⟨ps, hpd⟩ : ∃ ps, ps = piecesB s := ⟨_, rfl⟩
    have hsp := Split_any s w h
    rw [← hpd] at hsp hps hpl
    have HP : Hid (R = (decide (s.size ≤ 102) && (decide (ps.length ≤ 6) && !ps.any fun p => !partB p.data.toList))) := by rw [hpd]; exact HR.out
    clear hpd HR
    have hcells : ∀ j (hj : j < ps.length), (w.alloc (.cells (ps.map Value.string).toArray 9)).cell? ⟨w.heap.size, j, none⟩ = some (.string ps[j]) := fun j hj => by
      rw [cell_of_row _ _ j _ _ (0, 0) (heap_alloc_new w _)]
      simp [hj]
    have hct := contains_any ps w.heap.size ps.length _ (by unfold maxLen; omega) hps hcells
    have HS := Lib.hid hps
    have HC := Lib.hid hcells
    clear hps hcells
    by_cases h6 : ps.length ≤ 6
    · have h6' : decide ((ps.length : Int) ≤ 6) = true := decide_eq_true (by omega)
      go_enter Tryz.func6, Tryz.ntmps6
      go_wp2_with (first | (go_at_call 21; refine hsp.mono ?_; rintro e w' ⟨rfl, rfl⟩) | (go_at_call 22; refine hct.mono ?_; rintro e w' ⟨rfl, rfl⟩))
      go_ret
      refine ⟨ret_bool ?_, (Below.refl _ _).alloc (Nat.le_refl _) _⟩
      rw [HP.out]
      simp [h, h6]
    · have h6' : decide ((ps.length : Int) ≤ 6) = false := decide_eq_false (by omega)
      go_enter Tryz.func6, Tryz.ntmps6
      go_wp2_with (first | (go_at_call 21; refine hsp.mono ?_; rintro e w' ⟨rfl, rfl⟩))
      go_ret
      refine ⟨ret_bool ?_, (Below.refl _ _).alloc (Nat.le_refl _) _⟩
      rw [HP.out]
      simp [h, h6]
  · have h1 : ((102 : Int) < s.size) := by omega
    go_enter Tryz.func6, Tryz.ntmps6
    go_wp2
    go_ret
    refine ⟨ret_bool ?_, Below.refl _ _⟩
    rw [HR.out]
    simp [h]
end Go.Proofs.YtplocldnklccfaaGreatDoor
