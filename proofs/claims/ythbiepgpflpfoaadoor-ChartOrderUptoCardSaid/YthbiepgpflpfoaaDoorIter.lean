/- An iterator that walks a structure in memory and holds loops over iterators of its own; a law for loops over such. No function of the program is named. -/
import Derived.RangeFuncNested
import Derived.RangeFuncBound
import Derived.RangeFuncCalls
import Derived.RangeFuncLeaves
import Derived.RangeFuncWrites
import Derived.Test.YthbiepgpflpfoaaDoorMem
namespace Go.Proofs.YthbiepgpflpfoaaDoor
open Go.RowKit
set_option linter.unusedVariables false
set_option linter.unusedSimpArgs false

/-- What a round keeps: blocks below n₀; boxes of type T; from B on whatever is no cells. -/
structure Kp (T : TypeId) (n₀ B : Nat) (A A' : World) : Prop where
  bel : Below n₀ A A'
  box : ∀ k v, Boxed A k T v → Boxed A' k T v
  same : KeepsFrom B A A'

theorem Kp.refl (T : TypeId) (n₀ B : Nat) (A : World) : Kp T n₀ B A A := ⟨Below.refl _ _, fun _ _ h => h, KeepsFrom.refl _ _⟩
theorem Kp.trans {T : TypeId} {n₀ B : Nat} {X Y Z : World} (h : Kp T n₀ B X Y) (k : Kp T n₀ B Y Z) : Kp T n₀ B X Z := ⟨h.bel.trans k.bel, fun i v hi => k.box i v (h.box i v hi), h.same.trans k.same⟩
theorem Kp.mono {T : TypeId} {n₀ B B' : Nat} {X Y : World} (h : Kp T n₀ B X Y) (hB : B ≤ B') : Kp T n₀ B' X Y := ⟨h.bel, h.box, h.same.size, fun k o hk => h.same.same k o (Nat.le_trans hB hk)⟩
theorem Kp.drew {T : TypeId} {n₀ B : Nat} {X Y : World} (h : Kp T n₀ B X Y) : Kp T n₀ B X Y.drew := ⟨h.bel.drew, h.box, h.same.size, h.same.same⟩
theorem Kp.alloc {T : TypeId} {n₀ B : Nat} {X : World} (o : Obj) (h : n₀ ≤ X.heap.size) : Kp T n₀ B X (X.alloc o) :=
  ⟨(Below.refl _ _).alloc h o, fun k v hk => hk.alloc o, (KeepsOthers.alloc X o).from B⟩
/-- A block that is no cells is turned; it lies below B. -/
theorem Kp.putObj {T : TypeId} {n₀ B : Nat} {X : World} {l : Nat} {o : Obj} (o' : Obj) (h : n₀ ≤ l) (hl : X.heap[l]? = some o) (ho : o.isCells = false) (hB : l < B) : Kp T n₀ B X (X.putObj l o') :=
  ⟨(Below.refl _ _).grown (grownBy_putObj' X l o') (by have := (Array.getElem?_eq_some_iff.1 hl).1; omega) (fun k e => by cases e; exact h),
   fun k v hk => hk.kept (grownBy_putObj' X l o') (fun e => by injection e with e; subst e; rw [show X.heap[k]? = _ from hk] at hl; cases hl; cases ho),
   KeepsFrom.of_grownBy (grownBy_putObj' X l o') (fun j e => by cases e; exact hB)⟩
/-- A cell of a block of another type is turned. -/
theorem Kp.setCell {T : TypeId} {n₀ B : Nat} {X : World} {b i : Nat} (u : Value) (h : n₀ ≤ b) (hb : ∀ v, ¬ Boxed X b T v) : Kp T n₀ B X (X.setCell ⟨b, i, none⟩ u) :=
  ⟨(Below.refl _ _).setCell (p := ⟨b, i, none⟩) h u, fun k v hk => by
    have hne : k ≠ b := fun e => hb v (e ▸ hk)
    exact (Below.heap_setCell X ⟨b, i, none⟩ u k hne).trans hk, (KeepsOthers.setCell _ _ _).from B⟩

section
variable {α : Type} {F : Fence} {P : Program}

/-- What an iterator promises: all of ys come; or a round has said 'no more'. -/
def It (F : Fence) (P : Program) (g : Nat) (lb : Array Value) (T : TypeId) (enc : α → Value) (n₀ : Nat) (ys : List α) (w : World) : Prop :=
  ∀ (l : Nat) (J Jx : List α → World → Prop) (W : World), Below w.heap.size w W → OwnFrom W.heap.size J → OwnFrom W.heap.size Jx →
    (∀ m pre x W1, J pre W1 → pre ++ [x] <+: ys → YieldAt F m P l #[enc x] W1 fun e W' =>
      ((e = .returned (.bool true) ∧ J (pre ++ [x]) W') ∨ (e = .returned (.bool false) ∧ Jx (pre ++ [x]) W')) ∧ Kp T n₀ W.heap.size W1 W') →
    J [] W →
    ∀ n, CallsIn F n P g (#[.func (.yield l) #[] #[]] ++ lb) W fun e W' => (∃ v, e = .returned v) ∧ (J ys W' ∨ ∃ pre, pre <+: ys ∧ Jx pre W')

/-- How a round's body may be left. -/
def itPost (T : TypeId) (n₀ B : Nat) (I Ix : List α → World → Prop) (xs : List α) (W : World) : Exit → Act → World → Prop
  | .normal, _, W' => Kp T n₀ B W W' ∧ I xs W'
  | .ret, _, W' => Kp T n₀ B W W' ∧ Ix xs W'
  | _, _, _ => False

theorem wpIn_range_it {n : Nat} {g : Operand} {p : Tmp} {assign body : Code} {Q : Exit → Act → World → Prop} {a : Act} {w : World} {T : TypeId} {enc : α → Value} {n₀ : Nat} {ys : List α}
    (hd : F.depth = none) (hro : F.round = none) {gf : Nat} {lb : Array Value} (hg : a.eval g = .func (.func gf) #[] lb) (hFg : F.fn gf) (eg : ∀ args w, (callFunc gf args).run P w = .ok (.enter gf args) w)
    (hit : It F P gf lb T enc n₀ ys w) (hn₀ : n₀ ≤ w.heap.size)
    (I Ix : List α → World → Prop) (hI : OwnFrom w.heap.size I) (hIx : OwnFrom w.heap.size Ix) (h0 : I [] w)
    (Ax : α → Act → World → Prop) (hAx : ∀ x a', OwnFrom w.heap.size (fun (_ : Unit) W => Ax x a' W))
    (hassign : ∀ (l m : Nat) (pre : List α) (x : α) (W : World) (K : Act → World → Prop), w.heap.size ≤ W.heap.size → I pre W →
      (∀ a' W', Kp T n₀ w.heap.size W W' → I pre W' → Ax x a' W' → K a' W') →
      assign.wpIn (F.inRound l) m P (Exit.then K (fun _ _ _ => False)) { tmps := (#[p].zip #[enc x]).foldl (fun t (p, v) => t.setIfInBounds p v) a.tmps, defers := [] } W)
    (hbody : ∀ (l m : Nat) (pre : List α) (x : α) (a' : Act) (W : World), w.heap.size ≤ W.heap.size → I pre W → Ax x a' W → pre ++ [x] <+: ys → body.wpIn (F.inRound l) m P (itPost T n₀ w.heap.size I Ix (pre ++ [x]) W) a' W)
    (hdone : ∀ (D : Nat) (W : World), w.heap.size ≤ D → I ys W → W.heap[D]? = some (.deferred (some [])) → Q .normal { a with defers := { target := .collected D, args := #[] } :: a.defers } W)
    (hstop : ∀ (D : Nat) (pre : List α) (W : World), w.heap.size ≤ D → pre <+: ys → Ix pre W → W.heap[D]? = some (.deferred (some [])) → Code.ret.wpIn F n P Q { a with defers := { target := .collected D, args := #[] } :: a.defers } W) :
    (Code.rangeFunc g #[p] assign body).wpIn F n P Q a w := by
  refine wpIn_rangeFunc ?_
  intro fn hfn
  rw [hro]
  obtain ⟨rec, hrec⟩ : ∃ rec : LoopState → Option Code → Loop, rec = fun st pe => { state := st, pending := pe, fn, tmps := a.tmps, params := #[p], assign, body, defers := w.heap.size } := ⟨_, rfl⟩
  obtain ⟨W1, hW1⟩ : ∃ W1, (w.alloc (.deferred (some []))).alloc (.loop (rec .ready none)) = W1 := ⟨_, rfl⟩
  have hs1 : W1.heap.size = w.heap.size + 2 := by rw [← hW1]; simp
  have hL1 : W1.heap[w.heap.size + 1]? = some (.loop (rec .ready none)) := by
    rw [← hW1]; have := World.alloc_heap_new (w.alloc (.deferred (some []))) (.loop (rec .ready none)); rwa [World.size_alloc] at this
  have hK1 : W1.heap[w.heap.size]? = some (.deferred (some [])) := by
    rw [← hW1]; exact (Below.heap_alloc _ _ _ (by simp)).trans (World.alloc_heap_new w _)
  have hI1 : I [] W1 := by rw [← hW1]; exact hI.alloc _ (hI.alloc _ h0)
  have hb1 : Below w.heap.size w W1 := by
    rw [← hW1]; exact ((Below.refl _ w).alloc (Nat.le_refl _) _).alloc (by simp) _
  have keep : ∀ {A B : World} {row : Option Nat} {k : Nat} {o : Obj}, A.heap[k]? = some o → k < W1.heap.size → A.grownBy B row → (∀ r, row = some r → W1.heap.size ≤ r ∧ ∃ o : Obj, A.heap[r]? = some o ∧ o.isCells = false) → B.heap[k]? = some o :=
    fun hA hk hg hr => (hg.block _ (Array.getElem?_eq_some_iff.1 hA).1 (fun e => by have := (hr _ e.symm).1; omega)).trans hA
  have wide : ∀ {A B : World} {row : Option Nat}, (∀ r, row = some r → W1.heap.size ≤ r ∧ ∃ o : Obj, A.heap[r]? = some o ∧ o.isCells = false) → (∀ r, row = some r → w.heap.size ≤ r ∧ ∃ o : Obj, A.heap[r]? = some o ∧ o.isCells = false) :=
    fun hr r e => ⟨by have := (hr r e).1; omega, (hr r e).2⟩
  refine ⟨w.heap.size + 1, [{ target := .collected w.heap.size, args := #[] }], W1, { target := .fn (.func gf) lb, args := #[.func (.yield (w.heap.size + 1)) #[] #[]] }, W1, gf,
    #[.func (.yield (w.heap.size + 1)) #[] #[]] ++ lb, W1, ?_, ?_, ?_, ?_, fun h => by (rw [hd] at h; cases h), ?_⟩
  · rw [← hW1, hrec]; exact run_enterLoop_outer _ _ _ _ _
  · simp only [resolve, hg]
    simp [go_sem]
  · intro f' hf'; simp [Target.leads] at hf'; subst hf'; exact hFg
  · simp [invoke, go_sem, eg]
  · refine (hit (w.heap.size + 1)
      (fun pre W => I pre W ∧ W.heap[w.heap.size + 1]? = some (.loop (rec .ready none)) ∧ W.heap[w.heap.size]? = some (.deferred (some [])))
      (fun pre W => Ix pre W ∧ W.heap[w.heap.size + 1]? = some (.loop (rec .done (some .ret))) ∧ W.heap[w.heap.size]? = some (.deferred (some [])))
      W1 hb1
      (fun s A B row hs hg' hr => ⟨hI s A B row hs.1 hg' (wide (B := B) hr), keep hs.2.1 (by omega) hg' hr, keep hs.2.2 (by omega) hg' hr⟩)
      (fun s A B row hs hg' hr => ⟨hIx s A B row hs.1 hg' (wide (B := B) hr), keep hs.2.1 (by omega) hg' hr, keep hs.2.2 (by omega) hg' hr⟩)
      ?_ ⟨hI1, hL1, hK1⟩ (n - 1)).mono ?_
    · rintro m pre x W ⟨hi, hl, hk⟩ hpre
      have hlt : w.heap.size + 1 < W.heap.size := (Array.getElem?_eq_some_iff.1 hl).1
      have hy := run_yield (P := P) (args := #[enc x]) hl (by rw [hrec]; rfl)
      rw [hrec] at hy
      refine ⟨fn, _, assign, body, hy, roundIn_of_wpIn hfn ?_⟩
      clear hy
      refine hassign _ m pre x W _ (by omega) hi ?_
      intro a' Wa hka hia hax
      have hla := hka.same.same _ _ (by omega) hl rfl
      have hkk := hka.same.same _ _ (Nat.le_refl _) hk rfl
      have hlta : w.heap.size + 1 < Wa.heap.size := (Array.getElem?_eq_some_iff.1 hla).1
      refine ⟨_, run_beginRound hla (by rw [hrec]), ?_⟩
      have hl2 : (Wa.putObj (w.heap.size + 1) (.loop { rec .ready none with state := .busy })).heap[w.heap.size + 1]? = some (.loop { rec .ready none with state := .busy }) := World.putObj_heap_same hlta
      have hk2 : (Wa.putObj (w.heap.size + 1) (.loop { rec .ready none with state := .busy })).heap[w.heap.size]? = some (.deferred (some [])) := (World.putObj_heap_other (by omega)).trans hkk
      have hw2 : Kp T n₀ W1.heap.size Wa (Wa.putObj (w.heap.size + 1) (.loop { rec .ready none with state := .busy })) := Kp.putObj _ (by omega) hla rfl (by omega)
      refine wpIn_mono (hbody _ m pre x a' _ (by simp [World.putObj]; omega) (hI.putObj _ hia (by omega) hla rfl) ((hAx x a').putObj (s := ()) _ hax (by omega) hla rfl) hpre) ?_
      have fin : ∀ (jump : Option Code) (W3 : World), Kp T n₀ w.heap.size (Wa.putObj (w.heap.size + 1) (.loop { rec .ready none with state := .busy })) W3 →
          (Instr.endRound (w.heap.size + 1) jump).run P W3 = .ok (.bool jump.isNone) (W3.putObj (w.heap.size + 1) (.loop (rec (if jump.isNone then .ready else .done) jump))) ∧
          W3.heap[w.heap.size + 1]? = some (.loop { rec .ready none with state := .busy }) ∧
          (W3.putObj (w.heap.size + 1) (.loop (rec (if jump.isNone then .ready else .done) jump))).heap[w.heap.size + 1]? = some (.loop (rec (if jump.isNone then .ready else .done) jump)) ∧
          (W3.putObj (w.heap.size + 1) (.loop (rec (if jump.isNone then .ready else .done) jump))).heap[w.heap.size]? = some (.deferred (some [])) ∧
          Kp T n₀ W1.heap.size W (W3.putObj (w.heap.size + 1) (.loop (rec (if jump.isNone then .ready else .done) jump))) := fun jump W3 hk3 => by
        have hl3 := hk3.same.same _ _ (by omega) hl2 rfl
        have hrun := run_endRound (P := P) jump hl3
        rw [hrec] at hrun ⊢
        refine ⟨hrun, by rw [hrec] at hl3; exact hl3, World.putObj_heap_same (Array.getElem?_eq_some_iff.1 hl3).1, (World.putObj_heap_other (by omega)).trans (hk3.same.same _ _ (Nat.le_refl _) hk2 rfl), ?_⟩
        exact (((hka.mono (by omega)).trans hw2).trans (hk3.mono (by omega))).trans (Kp.putObj _ (by omega) hl3 rfl (by omega))
      rintro e a3 W3 hp
      cases e with
      | normal =>
        obtain ⟨hk3, hi3⟩ := hp
        obtain ⟨hr, hl3, hl4, hk4, hkp⟩ := fin none W3 hk3
        exact ⟨_, _, hr, .inl ⟨rfl, hI.putObj _ hi3 (by omega) hl3 rfl, hl4, hk4⟩, hkp⟩
      | ret =>
        obtain ⟨hk3, hi3⟩ := hp
        obtain ⟨hr, hl3, hl4, hk4, hkp⟩ := fin (some .ret) W3 hk3
        exact ⟨_, _, hr, .inr ⟨rfl, hIx.putObj _ hi3 (by omega) hl3 rfl, hl4, hk4⟩, hkp⟩
      | exit id => exact hp.elim
      | goto t => exact hp.elim
      | panic ch => exact hp.elim
      | outgrown => exact hp.elim
    · rintro e W2 ⟨⟨v, rfl⟩, (⟨hi, hl, hk⟩ | ⟨pre, hSp, hi, hl, hk⟩)⟩
      · exact ⟨none, _, by have := run_endLoop (P := P) hl (by rw [hrec]; simp); rw [hrec] at this; exact this, hdone _ _ (Nat.le_refl _) (hI.putObj _ hi (by omega) hl rfl) ((World.putObj_heap_other (by omega)).trans hk)⟩
      · exact ⟨some .ret, _, by have := run_endLoop (P := P) hl (by rw [hrec]; simp); rw [hrec] at this; exact this, hstop _ pre _ (Nat.le_refl _) hSp (hIx.putObj _ hi (by omega) hl rfl) ((World.putObj_heap_other (by omega)).trans hk)⟩
end
end Go.Proofs.YthbiepgpflpfoaaDoor
