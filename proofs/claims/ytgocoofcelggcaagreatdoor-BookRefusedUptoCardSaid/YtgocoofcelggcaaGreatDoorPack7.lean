/- Accounts of a chart: all of them, by rising name; Contracts of what only reads the books; Which rows an event makes, whether lines may be, the turnover with rows; The rows of invoices and payments; the turnover with rows; For what events are refused: openings, locks, trades, allotments, postings, voids; For what trades are refused. Printed by gen_may.py. -/
import Derived.Test.YtgocoofcelggcaaGreatDoorPack6
import Derived.Test.YtgocoofcelggcaaGreatDoorPack3
import Derived.OwnWalkIn
import Derived.BigQuiet
import Derived.Deep.QuietTactic
import Derived.StillTailTactics
import Derived.Laws.EntriesVeiled
import Derived.Deep.WholeRow
import Derived.Deep.RegionHeld3
namespace Go.Proofs.YtgocoofcelggcaaGreatDoor
open Go.RowKit Go.Shelf
set_option linter.unusedVariables false
set_option linter.unusedSimpArgs false

attribute [local go_sem] Oper.semAt_some

/-- A slice of accounts in a block of its own, or no block at all. -/
inductive AccRow (B : Nat) (w : World) (L : List Acct) : Value → Prop
  | nil (h : L = []) : AccRow B w L (.slice none 0 0)
  | row (b c : Nat) (hb : B ≤ b) (h : RowA w b L) : AccRow B w L (.slice (some ⟨b, 0, none⟩) L.length c)

theorem AccRow.below {B : Nat} {w w' : World} {L : List Acct} {v : Value} (h : AccRow B w L v) (hb : Below w.heap.size w w') : AccRow B w' L v := by
  cases h with
  | nil h => exact .nil h
  | row b c h1 h2 => exact .row b c h1 (h2.below hb)

def cellsA (l : List Acct) : List Value := l.flatMap encA
theorem cellsA_len (l : List Acct) : (cellsA l).length = l.length * 4 := by
  unfold cellsA
  induction l with
  | nil => rfl
  | cons a r ih => rw [List.flatMap_cons, List.length_append, ih]; show 4 + _ = _; simp; omega
theorem cellsA_get : ∀ (l : List Acct) (j : Nat) (hj : j < l.length) (c : Nat), c < 4 → (cellsA l)[j * 4 + c]? = (encA l[j])[c]?
  | [], j, hj, _, _ => by simp at hj
  | a :: r, 0, _, c, hc => by
    show (encA a ++ cellsA r)[0 * 4 + c]? = _
    rw [List.getElem?_append_left (by show _ < 4; omega)]
    simp
  | a :: r, j + 1, hj, c, hc => by
    show (encA a ++ cellsA r)[(j + 1) * 4 + c]? = _
    rw [List.getElem?_append_right (by show 4 ≤ _; omega)]
    have e : (j + 1) * 4 + c - (encA a).length = j * 4 + c := by show _ - 4 = _; omega
    rw [e, cellsA_get r j (by simpa using hj) c hc]
    rfl

theorem row_of_own {w : World} {B : Nat} {v : Value} {l : List Acct} {t : TypeId} (h : w.ownsRow B t 4 v l.length (cellsA l)) : (l = [] ∧ v = .slice none 0 0) ∨ ∃ g c, v = .slice (some ⟨g, 0, none⟩) l.length c ∧ B ≤ g ∧ RowA w g l ∧ ∀ i, w.frozen? ⟨g, i, none⟩ = false := by
  rcases h.2 with ⟨e, h0⟩ | ⟨g, cap, cur, e, hb, hg, r⟩
  · exact .inl ⟨List.eq_nil_of_length_eq_zero h0, e⟩
  · refine .inr ⟨g, cap, e, hb, ?_, fun i => ?_⟩
    · have hc : ∀ j (hj : j < l.length) c u, c < 4 → (encA l[j])[c]? = some u → w.cell? ⟨g, j * 4 + c, none⟩ = some u := fun j hj c u hc4 hu => by
        have := h.cells (g := g) (by rw [e]; rfl) (j * 4 + c) u (by rw [cellsA_get l j hj c hc4]; exact hu)
        rw [Addr.add_lit] at this
        simpa using this
      exact ⟨heap_lt hg, fun j hj => hc j hj 0 _ (by omega) rfl, fun j hj => hc j hj 1 _ (by omega) rfl, fun j hj => hc j hj 2 _ (by omega) rfl, fun j hj => hc j hj 3 _ (by omega) rfl⟩
    · simp [World.frozen?, hg]

theorem info_acc : (Tryz.prog.info? 65).map (fun i => (i.zero, i.size, i.bytes)) = some (some (.agg #[.string ByteArray.empty, .int .i64 0, .int .i64 0, .bool false]), 4, 40) := by kernel_rfl

theorem calls_in {n k : Nat} {args : Array Value} {w : World} {R : Ending → World → Prop} (h : Calls Tryz.prog k args w R) : CallsIn Fence.wide n Tryz.prog k args w R := (callsIn_wide (n := n)).2 h

theorem enc_new (W : World) (x : Acct) (t : TypeId) : ∀ j u, (encA x)[j]? = some u → (W.alloc (.cells #[.string x.name, .int .i64 x.typ, .int .i64 x.opened, .bool x.closed] t)).cell? ((⟨W.heap.size, 0, none⟩ : Addr).add j) = some u := by
  intro j u hu
  rw [Addr.add_lit, cell_of_blk (World.alloc_heap_new W _)]
  unfold encA at hu
  simpa using hu

/-- What a round that has appended keeps. -/
theorem kp_appended {W w1 : World} {n₀ B Bl : Nat} {T t e : TypeId} {size k : Nat} {v v' : Value} {xs : List Value} {tmp : Obj} (hv : Boxed W Bl t v) (hrow : W.ownsRow n₀ e size v k xs) (hgrow : (W.alloc tmp).grownBy w1 v.ownBlock)
    (hT : T ≠ t) (hTe : T ≠ e) (hko : KeepsOthers W (w1.setCell ⟨Bl, 0, none⟩ v')) (hbel : Below n₀ W (w1.setCell ⟨Bl, 0, none⟩ v')) : Kp T n₀ B W (w1.setCell ⟨Bl, 0, none⟩ v') := by
  refine ⟨hbel, fun i u hi => ?_, hko.from B⟩
  have h1 : Boxed w1 i T u := (hi.alloc tmp).kept hgrow (hi.not_row hTe hrow)
  have hne : i ≠ Bl := fun e => by
    subst e
    have := (show W.heap[i]? = _ from hi).symm.trans (show W.heap[i]? = _ from hv)
    injection this with this
    injection this with _ h2
    exact hT h2
  exact h1.other hne v'

set_option maxRecDepth 100000 in
set_option maxHeartbeats 4000000 in
theorem Accounts_walk (n : Nat) (cb : Nat) (L ys : List Acct) (hp : ys.Perm L) (hL : Rising L) (hle : L.length ≤ 100) (Ak : Option Addr) (nk ck : Nat) (w : World) (hlt : cb < w.heap.size) (hc1 : w.cell? ⟨cb, 1, none⟩ = some (.slice Ak nk ck))
    (hit : ∀ (W : World) (Bt : Nat), Below w.heap.size w W → Bt < W.heap.size → W.cell? ⟨Bt, 0, none⟩ = some (.slice Ak nk ck) → It Fence.wide Tryz.prog 77 #[.pointer (some ⟨Bt, 0, none⟩)] 134 accV w.heap.size ys W) :
    CallsIn Fence.wide n Tryz.prog 34 #[.pointer (some ⟨cb, 0, none⟩)] w fun e w' => ∃ v, e = .returned v ∧ AccRow w.heap.size w' L v ∧ Below w.heap.size w w' := by
  obtain ⟨i0, hi, hz0, hz1, hz2⟩ := info_parts info_acc
  have HIT := Lib.hid hit
  clear hit
  have HP := Lib.hid hp
  have HL := Lib.hid hL
  clear hp hL
  have hyl : ys.length ≤ 100 := by rw [HP.out.length_eq]; exact hle
  have hd : Fence.wide.depth = none := rfl
  have hF : ∀ k, Fence.wide.fn k := fun _ => trivial
  have hro : Fence.wide.round = none := rfl
  have hin : ∀ (m k : Nat) (args : Array Value) (W : World) (R : Ending → World → Prop), Calls Tryz.prog k args W R → CallsIn Fence.wide m Tryz.prog k args W R := fun m k args W R h => calls_in h
  generalize Fence.wide = F at *
  have hdd : ∀ k : Nat, (F.depth.isSome = true → 1 ≤ k) := fun k h => by rw [hd] at h; cases h
  refine callsIn_of_wp_marks Tryz.func34 rfl (hF _) ?_ hro
  simp only [Tryz.ntmps34, List.size_toArray, List.length_cons, List.length_nil, Nat.reduceAdd, Nat.reduceSub, Array.replicate_succ, Array.replicate_zero, List.push_toArray, List.append_toArray, List.nil_append, List.cons_append]
  gi_wp2_with ((try refine ⟨hdd _, ?_⟩); gi_at_call 47; refine (below_in F _ (hF _) hro _ _ _ _).mono ?_; rintro e w' ⟨rfl, rfl⟩)
  have bL : Boxed ((w.alloc (.cells #[.slice none 0 0] 45)).alloc (.cells #[.slice Ak nk ck] 109)) w.heap.size 45 (.slice none 0 0) := (Boxed.new w 45 (.slice none 0 0)).alloc _
  have bT := Boxed.new (w.alloc (.cells #[.slice none 0 0] 45)) 109 (.slice Ak nk ck)
  rw [World.size_alloc] at bT
  have hB0 : Below w.heap.size w ((w.alloc (.cells #[.slice none 0 0] 45)).alloc (.cells #[.slice Ak nk ck] 109)) := ((Below.refl _ w).alloc (Nat.le_refl _) _).alloc (by simp) _
  have hsz : ((w.alloc (.cells #[.slice none 0 0] 45)).alloc (.cells #[.slice Ak nk ck] 109)).heap.size = w.heap.size + 2 := by simp
  obtain ⟨W0, hW0⟩ : ∃ W0, (w.alloc (.cells #[.slice none 0 0] 45)).alloc (.cells #[.slice Ak nk ck] 109) = W0 := ⟨_, rfl⟩
  rw [hW0] at bL bT hB0 hsz ⊢
  clear hW0
  refine wpIn_range_it (T := 134) (enc := accV) (n₀ := w.heap.size) (ys := ys) hd hro (gf := 77) (lb := #[.pointer (some ⟨w.heap.size + 1, 0, none⟩)]) rfl (hF _) (enters_of Tryz.func77 (by kernel_rfl) rfl)
    (HIT.out W0 (w.heap.size + 1) hB0 (by omega) bT.cell) (by omega)
    (fun pre W => (∃ v, Boxed W w.heap.size 45 v ∧ W.ownsRow w.heap.size 65 4 v pre.length (cellsA pre) ∧ True) ∧ Below w.heap.size w W)
    (fun pre W => False)
    (OwnFrom.and (Own.from (holdsRow_own _ _ _ _ _ (fun pre : List Acct => pre.length) cellsA (fun _ _ => True)) _) (ownFrom_below (Nat.le_refl _) (by omega)))
    (ownFrom_pure _ _)
    ⟨⟨_, bL, World.ownsRow_nil _ _ _ _, trivial⟩, hB0⟩
    (fun x a' W => ∃ Bx, W.heap[Bx]? = some (.cells #[.string x.name, .int .i64 x.typ, .int .i64 x.opened, .bool x.closed] 65 (0, 0)) ∧ a' = { tmps := #[.pointer (some ⟨cb, 0, none⟩), undef, .slice none 0 0, .pointer (some ⟨w.heap.size, 0, none⟩), .pointer (some ⟨Bx, 0, none⟩), .pointer (some ⟨cb, 0, none⟩), .pointer (some ⟨cb, 0, none⟩), .pointer (some ⟨cb, 1, none⟩), .slice Ak nk ck, .func (.func 77) #[] #[.pointer (some ⟨w.heap.size + 1, 0, none⟩)], accV x, undef, undef, undef, undef, undef, undef, undef], defers := [] })
    (fun x a' _ X Y row h hg hr => by
      obtain ⟨Bx, h1, h2⟩ := h
      refine ⟨Bx, (hg.block Bx (heap_lt h1) (fun e => ?_)).trans h1, h2⟩
      obtain ⟨_, o, ho, hc⟩ := hr Bx e.symm
      rw [h1] at ho; cases ho; cases hc)
    ?assign ?body ?done ?stop
  case assign =>
    rintro l2 m q x W' K hs' ⟨⟨v, hbv, hown, _⟩, hbel⟩ hK
    unfold accV
    gi_wp2
    exact hK _ _ (Kp.alloc _ (by omega)) ⟨⟨v, hbv.alloc _, hown.alloc _, trivial⟩, hbel.alloc (by omega) _⟩ ⟨W'.heap.size, heap_alloc_new _ _, rfl⟩
  case body =>
    rintro l2 m q x a' W' hs' ⟨⟨v, hbv, hown, _⟩, hbel⟩ ⟨Bx, hBx, rfl⟩ hq
    have hql : q.length < ys.length := by obtain ⟨t, ht⟩ := hq; rw [← ht]; simp
    have hcR := hbv.cell
    have hfR := hbv.frozen
    have x0 : W'.cell? ⟨Bx, 0, none⟩ = some (.string x.name) := by rw [cell_of_blk hBx]; rfl
    have x1 : W'.cell? ⟨Bx, 1, none⟩ = some (.int .i64 x.typ) := by rw [cell_of_blk hBx]; rfl
    have x2 : W'.cell? ⟨Bx, 2, none⟩ = some (.int .i64 x.opened) := by rw [cell_of_blk hBx]; rfl
    have x3 : W'.cell? ⟨Bx, 3, none⟩ = some (.bool x.closed) := by rw [cell_of_blk hBx]; rfl
    have HO := Lib.hid hown
    have HV := Lib.hid hbv
    clear hown hbv hq
    unfold accV
    gi_wp2_with (gi_at_builtin; refine wpListIn_append_own _ rfl _ _ 45 rfl w.heap.size 65 i0 (.agg #[.string ByteArray.empty, .int .i64 0, .int .i64 0, .bool false]) 4 40 Tryz.underlying45 hi hz0 hz1 hz2 rfl (by decide) _ _ _ rfl (HO.out.alloc _) ⟨W'.heap.size, 0, none⟩ 1 1 (encA x) rfl rfl ?c1 ?c2 ?c3 ?c4 ?c5 ?_)
    case c1 => exact enc_new W' x _
    case c2 => intro u hu; unfold encA at hu; simp at hu; rcases hu with rfl | rfl | rfl | rfl <;> rfl
    case c3 => unfold maxLen; omega
    case c4 => omega
    case c5 => simp; omega
    intro v' w1 hown' hgrow _
    obtain ⟨k1, k2, k3, k4, k5⟩ := Boxed.appended HV.out (by decide) HO.out (by omega) (Nat.le_refl _) hown' hgrow
    have HK := Lib.hid (And.intro k2 (And.intro k3 (And.intro k5 (kp_appended (B := W0.heap.size) (T := 134) HV.out HO.out hgrow (by decide) (by decide) k4 k5))))
    obtain ⟨g, cap, rfl⟩ := ownsRow_succ hown'
    have c1 := k1.cell
    have f1 := k1.frozen
    clear k1 k2 k3 k4 k5 hown' hgrow
    gi_wp2
    obtain ⟨k2, k3, k5, k6⟩ := HK.out
    exact ⟨k6, ⟨_, k2, by simpa [cellsA] using k3, trivial⟩, hbel.trans k5⟩
  case done =>
    rintro D W' hD ⟨⟨v, hbv, hown, _⟩, hbel⟩ hDd
    rcases row_of_own hown with ⟨rfl, rfl⟩ | ⟨g, cap, rfl, hgb, hra, hfr⟩
    · have hcR := hbv.cell
      have HL0 := Lib.hid (show L = [] from (List.perm_nil.1 HP.out.symm))
      have hs := fun m => hin m _ _ W' _ (AnyF.slices_SortFunc_none Tryz.sortAcc none 0 (.func (.func 49) #[] #[]) W')
      change ∀ m, CallsIn F m Tryz.prog 48 _ _ _ at hs
      gi_wp2_with ((try refine ⟨hdd _, ?_⟩); gi_at_call 48; refine (hs _).mono ?_; rintro e w2 ⟨rfl, hw2⟩; have hw3 := hw2.symm; subst hw3)
      refine ⟨by simp, .inl ⟨_, _, rfl, run_takeDeferred hDd, ?_⟩⟩
      refine ⟨.slice none 0 0, by simp [results, Tryz.results34, go_sem], _, rfl, .nil HL0.out, ?_⟩
      exact hbel.trans (belowK_b (w := w) (Nat.le_refl _) W' D _ _ (by omega) hDd rfl rfl)
    · have hcR := hbv.cell
      have hs := fun m => hin m _ _ W' _ (sort_acc HP.out HL.out hle g cap W' hra hfr)
      have hDg : D ≠ g := fun e => by
        subst e
        rcases hown.2 with ⟨h0, _⟩ | ⟨g', cap', cur, e2, _, hg, _⟩
        · cases h0
        · cases e2
          rw [hg] at hDd
          cases hDd
      have hgB : g ≠ w.heap.size := fun e => by
        have := hbv.not_row (by decide) hown
        exact this (by rw [e]; rfl)
      have HBV := Lib.hid hbv
      clear hown hbv
      have hgl := hra.lt
      gi_wp2_with ((try refine ⟨hdd _, ?_⟩); gi_at_call 48; refine (hs _).mono ?_; rintro e w2 ⟨rfl, hra2, hch⟩; have hcR2 : w2.cell? ⟨w.heap.size, 0, none⟩ = some (.slice (some ⟨g, 0, none⟩) ys.length cap) := (Boxed.cell ((hch.block _ HBV.out.lt (Ne.symm hgB)).trans HBV.out)))
      have hDd2 : w2.heap[D]? = some (.deferred (some [])) := (hch.block D (heap_lt hDd) hDg).trans hDd
      refine ⟨by simp, .inl ⟨_, _, rfl, run_takeDeferred hDd2, ?_⟩⟩
      refine ⟨.slice (some ⟨g, 0, none⟩) ys.length cap, by simp [results, Tryz.results34, go_sem], _, rfl, ?_, ?_⟩
      · rw [HP.out.length_eq]
        have hk : ∀ i, (w2.putObj D (.deferred none)).cell? ⟨g, i, none⟩ = w2.cell? ⟨g, i, none⟩ := fun i => by simp [World.cell?, heap_putObj_other _ (Ne.symm hDg)]
        exact .row g cap hgb ⟨by have := hra2.lt; simpa [World.putObj] using this, fun j hj => (hk _).trans (hra2.c0 j hj), fun j hj => (hk _).trans (hra2.c1 j hj), fun j hj => (hk _).trans (hra2.c2 j hj), fun j hj => (hk _).trans (hra2.c3 j hj)⟩
      · exact (hbel.trans (hch.toBelow hbel.size fun k e => by subst e; exact hgb)).trans (belowK_b (w := w) (Nat.le_refl _) w2 D _ _ (by omega) hDd2 rfl rfl)
  case stop =>
    rintro D q W' hD hq h
    exact h.elim

theorem Accounts_any {w : World} {F : Nat → Prop} {cb : Nat} {L : List Acct} (h : ChartAt w F cb L) (hv : Valid L) :
    Calls Tryz.prog 34 #[.pointer (some ⟨cb, 0, none⟩)] w fun e w' => ∃ v, e = .returned v ∧ AccRow w.heap.size w' L v ∧ Below w.heap.size w w' := by
  obtain ⟨mb, rv, nb, kv, ps, hcr⟩ := h
  have hc1 : w.cell? ⟨cb, 1, none⟩ = some rv := by rw [cell_of_blk hcr.hC]; rfl
  obtain ⟨hfo, hroots⟩ := hcr.forest
  have hrow := hroots
  obtain ⟨Ak, ck, rfl, _⟩ := hroots.ex
  have hB : ∀ b ∈ rootsA L, 102 < b.name.size + 103 := fun b _ => by omega
  have hkl : (rootsA L).length ≤ 100 := Nat.le_trans (List.length_filter_le _ _) hv.le
  have hit : ∀ (W : World) (Bt : Nat), Below w.heap.size w W → Bt < W.heap.size → W.cell? ⟨Bt, 0, none⟩ = some (.slice Ak (rootsA L).length ck) → It Fence.wide Tryz.prog 77 #[.pointer (some ⟨Bt, 0, none⟩)] 134 accV w.heap.size (flatA L (rootsA L)) W :=
    fun W Bt hb hBt hcell => seq_it Fence.wide rfl (fun _ => trivial) rfl w.heap.size L nb kv 102 hv.le (fun a ha => hv.size ha) hv.kid 103 (rootsA L) (fun b hb => (List.mem_filter.1 hb).1) hB hkl Bt _ W hb.size hBt hcell (hrow.below hb) (hfo.below hb)
  exact (callsIn_wide (n := 3)).1 (Accounts_walk 3 cb L _ (flat_perm hv) hv.rising hv.le Ak _ ck w (heap_lt hcr.hC) hc1 hit)
end Go.Proofs.YtgocoofcelggcaaGreatDoor
namespace Go.Proofs.YtgocoofcelggcaaGreatDoor
open Go.RowKit
set_option linter.unusedVariables false
set_option linter.unusedSimpArgs false

/-- A region that draws its order, reads, and ends with what stands behind its n first operations; W: the world behind the draw. -/
theorem still_tail {P : Program} {id : Nat} {Q : Exit → Act → World → Prop} {a : Act} {w W : World} {l : List Oper} (n : Nat) (hm : P.follows .mixedOrders = true) (hB : Region.lexTailB .any l.toArray n = true) (hW : w.drew = W)
    (h : wpStill P l.toArray W (fun a' => wpList P l.toArray Q (l.drop n) a' W) (l.take n) a) : (Code.region id l.toArray true).wp P Q a w := by
  subst hW
  exact wp_region_still_tail n hm hB h

/-! ### The cells at hand -/
section
variable {w : World} {ρ : Nat → Nat} {bb : Nat} {S : BookS} {p : Pl}
theorem BookP.c0 (h : BookP w ρ bb S p) : w.cell? ⟨bb, 0, none⟩ = some (.int .i64 S.events) := by rw [cell_of_blk h.head]; rfl
theorem BookP.c1 (h : BookP w ρ bb S p) : w.cell? ⟨bb, 1, none⟩ = some (.pointer (some ⟨p.cb, 0, none⟩)) := by rw [cell_of_blk h.head]; rfl
theorem BookP.c2 (h : BookP w ρ bb S p) : w.cell? ⟨bb, 2, none⟩ = some p.kV := by rw [cell_of_blk h.head]; rfl
theorem BookP.c3 (h : BookP w ρ bb S p) : w.cell? ⟨bb, 3, none⟩ = some (.map (some p.mK)) := by rw [cell_of_blk h.head]; rfl
theorem BookP.c4 (h : BookP w ρ bb S p) : w.cell? ⟨bb, 4, none⟩ = some p.rV := by rw [cell_of_blk h.head]; rfl
theorem BookP.c5 (h : BookP w ρ bb S p) : w.cell? ⟨bb, 5, none⟩ = some (.map (some p.mO)) := by rw [cell_of_blk h.head]; rfl
theorem BookP.c6 (h : BookP w ρ bb S p) : w.cell? ⟨bb, 6, none⟩ = some (.map (some p.mL)) := by rw [cell_of_blk h.head]; rfl
theorem BookP.c7 (h : BookP w ρ bb S p) : w.cell? ⟨bb, 7, none⟩ = some p.eV := by rw [cell_of_blk h.head]; rfl
theorem BookP.c8 (h : BookP w ρ bb S p) : w.cell? ⟨bb, 8, none⟩ = some (.map (some p.mE)) := by rw [cell_of_blk h.head]; rfl
theorem BookP.c9 (h : BookP w ρ bb S p) : w.cell? ⟨bb, 9, none⟩ = some (.map (some p.mC)) := by rw [cell_of_blk h.head]; rfl
theorem BookP.c10 (h : BookP w ρ bb S p) : w.cell? ⟨bb, 10, none⟩ = some p.oV := by rw [cell_of_blk h.head]; rfl
theorem BookP.c11 (h : BookP w ρ bb S p) : w.cell? ⟨bb, 11, none⟩ = some p.aV := by rw [cell_of_blk h.head]; rfl
theorem BookP.c12 (h : BookP w ρ bb S p) : w.cell? ⟨bb, 12, none⟩ = some (.int .i64 S.lock) := by rw [cell_of_blk h.head]; rfl
theorem BookP.c13 (h : BookP w ρ bb S p) : w.cell? ⟨bb, 13, none⟩ = some (.int .i64 S.turnover) := by rw [cell_of_blk h.head]; rfl
end
/-- An event lies in a block of its own. -/
structure EvAt (w : World) (eb : Nat) (e : EventV) (lv : Value) : Prop where
  blk : w.heap[eb]? = some (.cells (evCs e lv) 25 (0, 0))
section
variable {w : World} {eb : Nat} {e : EventV} {lv : Value}
theorem EvAt.below {w' : World} (h : EvAt w eb e lv) (hb : Below w.heap.size w w') : EvAt w' eb e lv := ⟨(hb.block _ (heap_lt h.blk)).trans h.blk⟩
theorem EvAt.ch {w' : World} {F : Nat → Prop} (h : EvAt w eb e lv) (hc : Ch F w w') (hn : ¬ F eb) : EvAt w' eb e lv := ⟨(hc.block _ (heap_lt h.blk) hn).trans h.blk⟩
theorem EvAt.e0 (h : EvAt w eb e lv) : w.cell? ⟨eb, 0, none⟩ = some (.int .i64 e.kind) := by rw [cell_of_blk h.blk]; rfl
theorem EvAt.e1 (h : EvAt w eb e lv) : w.cell? ⟨eb, 1, none⟩ = some (.int .i64 e.day) := by rw [cell_of_blk h.blk]; rfl
theorem EvAt.e2 (h : EvAt w eb e lv) : w.cell? ⟨eb, 2, none⟩ = some (.string e.key) := by rw [cell_of_blk h.blk]; rfl
theorem EvAt.e3 (h : EvAt w eb e lv) : w.cell? ⟨eb, 3, none⟩ = some (.string e.account) := by rw [cell_of_blk h.blk]; rfl
theorem EvAt.e4 (h : EvAt w eb e lv) : w.cell? ⟨eb, 4, none⟩ = some (.string e.other) := by rw [cell_of_blk h.blk]; rfl
theorem EvAt.e5 (h : EvAt w eb e lv) : w.cell? ⟨eb, 5, none⟩ = some (.string e.ref) := by rw [cell_of_blk h.blk]; rfl
theorem EvAt.e6 (h : EvAt w eb e lv) : w.cell? ⟨eb, 6, none⟩ = some (.string e.ref2) := by rw [cell_of_blk h.blk]; rfl
theorem EvAt.e7 (h : EvAt w eb e lv) : w.cell? ⟨eb, 7, none⟩ = some (.int .i64 e.typ) := by rw [cell_of_blk h.blk]; rfl
theorem EvAt.e8 (h : EvAt w eb e lv) : w.cell? ⟨eb, 8, none⟩ = some (.int .i64 e.due) := by rw [cell_of_blk h.blk]; rfl
theorem EvAt.e9 (h : EvAt w eb e lv) : w.cell? ⟨eb, 9, none⟩ = some (.int .i64 e.amount) := by rw [cell_of_blk h.blk]; rfl
theorem EvAt.e10 (h : EvAt w eb e lv) : w.cell? ⟨eb, 10, none⟩ = some (.string e.memo) := by rw [cell_of_blk h.blk]; rfl
theorem EvAt.e11 (h : EvAt w eb e lv) : w.cell? ⟨eb, 11, none⟩ = some lv := by rw [cell_of_blk h.blk]; rfl
end

theorem Lock_any {w : World} {F : Nat → Prop} {bb : Nat} {S : BookS} (h : BookAt w F bb S) : Calls Tryz.prog 16 #[ptrV bb] w fun e w' => e = .returned (.int .i64 S.lock) ∧ w = w' := by
  obtain ⟨ρ, p, h, _⟩ := h
  have c := h.c12
  clear h
  unfold ptrV
  go_enter Tryz.func16, Tryz.ntmps16
  go_wp2
  go_ret
  exact ⟨rfl, rfl⟩
theorem Len_any {w : World} {F : Nat → Prop} {bb : Nat} {S : BookS} (h : BookAt w F bb S) : Calls Tryz.prog 23 #[ptrV bb] w fun e w' => e = .returned (.int .i64 S.events) ∧ w = w' := by
  obtain ⟨ρ, p, h, _⟩ := h
  have c := h.c0
  clear h
  unfold ptrV
  go_enter Tryz.func23, Tryz.ntmps23
  go_wp2
  go_ret
  exact ⟨rfl, rfl⟩
theorem Turnover_any {w : World} {F : Nat → Prop} {bb : Nat} {S : BookS} (h : BookAt w F bb S) : Calls Tryz.prog 25 #[ptrV bb] w fun e w' => e = .returned (.int .i64 S.turnover) ∧ w = w' := by
  obtain ⟨ρ, p, h, _⟩ := h
  have c := h.c13
  clear h
  unfold ptrV
  go_enter Tryz.func25, Tryz.ntmps25
  go_wp2
  go_ret
  exact ⟨rfl, rfl⟩

theorem left_any (b : Nat) (am us : Int) (w : World) (h4 : w.cell? ⟨b, 4, none⟩ = some (.int .i64 am)) (h5 : w.cell? ⟨b, 5, none⟩ = some (.int .i64 us)) (hr : 0 ≤ am - us ∧ am - us ≤ 9223372036854775807) :
    Calls Tryz.prog 32 #[.pointer (some ⟨b, 0, none⟩)] w fun e w' => e = .returned (.int .i64 (am - us)) ∧ ∃ m, w' = w.drewN m := by
  have hw : wrap64 (am - us) = am - us := by unfold wrap64; omega
  have hw' : IntKind.i64.wrap (am - us) = am - us := IntWalk.i64_in _ (by omega)
  go_enter Tryz.func32, Tryz.ntmps32
  go_wp2
  go_quiet (fail)
  go_wp2
  go_ret
  exact ⟨rfl, _, rfl⟩

theorem none_any (bb eb : Nat) (w : World) : Calls Tryz.prog 57 #[ptrV bb, ptrV eb] w fun e w' => e = .returned (.slice none 0 0) ∧ w = w' := by
  unfold ptrV
  go_enter Tryz.func57, Tryz.ntmps57
  go_wp2
  go_ret
  exact ⟨rfl, rfl⟩

def rowCs (S : BookS) (e : EventV) (line : Int) (account : ByteArray) (amount : Int) (tag : ByteArray) : Array Value := (encPost (rowV S e line account amount tag)).toArray

set_option maxRecDepth 100000 in
set_option maxHeartbeats 2000000 in
theorem row_any (bb eb : Nat) (S : BookS) (e : EventV) (line : Int) (account : ByteArray) (amount : Int) (tag : ByteArray) (w : World) (hb : bb < w.heap.size) (he : eb < w.heap.size)
    (c0 : w.cell? ⟨bb, 0, none⟩ = some (.int .i64 S.events)) (hev : 0 ≤ S.events ∧ S.events ≤ 1000) (e0 : w.cell? ⟨eb, 0, none⟩ = some (.int .i64 e.kind)) (e1 : w.cell? ⟨eb, 1, none⟩ = some (.int .i64 e.day))
    (e2 : w.cell? ⟨eb, 2, none⟩ = some (.string e.key)) (e10 : w.cell? ⟨eb, 10, none⟩ = some (.string e.memo)) :
    Calls Tryz.prog 99 #[ptrV bb, ptrV eb, .int .i64 line, .string account, .int .i64 amount, .string tag] w fun en w' => en = .returned (.agg (rowCs S e line account amount tag)) ∧ Below w.heap.size w w' := by
  have hw : wrap64 (S.events + 1) = S.events + 1 := by unfold wrap64; omega
  have hw' : IntKind.i64.wrap (S.events + 1) = S.events + 1 := IntWalk.i64_in _ (by omega)
  unfold ptrV
  go_enter Tryz.func99, Tryz.ntmps99
  go_wp2
  refine still_tail (W := World.alloc (World.drew w) _) 26 (by kernel_rfl) (by kernel_rfl) rfl ?_
  simp only [List.take_succ_cons, List.take_zero, List.drop_succ_cons, List.drop_zero]
  repeat still_step
  refine wpStill_nil ?_
  go_wp2
  refine bodyPost_ret (v := .agg (rowCs S e line account amount tag)) (by simp [results, Tryz.results99, go_sem, rowCs, encPost, rowV]) rfl ⟨rfl, ?_⟩
  exact (Below.refl _ _).drew.alloc (Nat.le_refl _) _

/-! ### Finding in lists -/
theorem find_at {α : Type} (p : α → Bool) (l : List α) : (∃ i, ∃ hi : i < l.length, l.findIdx? p = some i ∧ l.find? p = some l[i] ∧ p l[i] = true) ∨ (l.findIdx? p = none ∧ l.find? p = none ∧ ∀ x ∈ l, p x = false) := by
  induction l with
  | nil => exact .inr ⟨rfl, rfl, fun x hx => by cases hx⟩
  | cons x r ih =>
    cases hp : p x with
    | true => exact .inl ⟨0, by simp, by simp [List.findIdx?_cons, hp], by simp [List.find?, hp], hp⟩
    | false =>
      rcases ih with ⟨i, hi, h1, h2, h3⟩ | ⟨h1, h2, h3⟩
      · exact .inl ⟨i + 1, by simp; omega, by simp [List.findIdx?_cons, hp, h1], by simp [List.find?, hp, h2], h3⟩
      · refine .inr ⟨by simp [List.findIdx?_cons, hp, h1], by simp [List.find?, hp, h2], fun y hy => ?_⟩
        rcases List.mem_cons.1 hy with rfl | hy
        · exact hp
        · exact h3 y hy

theorem BookP.lookC {w : World} {ρ : Nat → Nat} {bb : Nat} {S : BookS} {p : Pl} (h : BookP w ρ bb S p) (k : ByteArray) :
    (∃ i, ∃ hi : i < S.claims.length, claimOf S k = some S.claims[i] ∧ Sem.run Tryz.prog (Instr.lookup 75 (.map (some p.mC)) (.string k) false) w = .ok (ptrV (p.cl i)) w) ∨
    (claimOf S k = none ∧ Sem.run Tryz.prog (Instr.lookup 75 (.map (some p.mC)) (.string k) false) w = .ok (.pointer none) w) := by
  obtain ⟨ps, hs, hi⟩ := h.claims.ex
  have hl := run_lookup_strmap hs Tryz.underlying75 Tryz.underlying9 Tryz.zeroValue79 k
  rw [hi k] at hl
  rcases find_at (fun x : ClaimV => decide (x.key = k)) S.claims with ⟨i, hi, h1, h2, _⟩ | ⟨h1, h2, _⟩
  · rw [h1] at hl
    exact .inl ⟨i, hi, h2, hl⟩
  · rw [h1] at hl
    exact .inr ⟨h2, hl⟩

theorem Left_any {w : World} {F : Nat → Prop} {bb : Nat} {S : BookS} (h : BookAt w F bb S) (ho : OkS S) (k : ByteArray) :
    Calls Tryz.prog 17 #[ptrV bb, .string k] w fun e w' => e = .returned (.tuple #[.int .i64 (match claimOf S k with | none => 0 | some c => c.amount - c.used), .bool (claimOf S k).isSome]) ∧ ∃ m, w' = w.drewN m := by
  obtain ⟨ρ, p, h, _⟩ := h
  have c9 := h.c9
  rcases h.lookC k with ⟨i, hi, hc, hl⟩ | ⟨hc, hl⟩
  · have hm := (h.claim i hi).1
    have ha := ho.claAmt _ (List.getElem_mem hi)
    have hle := left_any (p.cl i) S.claims[i].amount S.claims[i].used w (by rw [cell_of_blk hm]; rfl) (by rw [cell_of_blk hm]; rfl) (by unfold maxA at ha; omega)
    rw [hc]
    simp only [Option.isSome_some]
    unfold ptrV at hl ⊢
    clear h hm ha hc
    go_enter Tryz.func17, Tryz.ntmps17
    go_wp2_with (go_at_call 32; refine hle.mono ?_; rintro e w' ⟨rfl, hw⟩; clear hle)
    go_ret2
    exact ⟨rfl, hw⟩
  · rw [hc]
    simp only [Option.isSome_none]
    unfold ptrV
    clear h hc
    go_enter Tryz.func17, Tryz.ntmps17
    go_wp2
    go_ret2
    exact ⟨rfl, 0, rfl⟩

theorem frozen_blk {w : World} {b : Nat} {cs : Array Value} {t : TypeId} (h : w.heap[b]? = some (.cells cs t (0, 0))) (i : Nat) : w.frozen? ⟨b, i, none⟩ = false := by
  simp [World.frozen?, h]

set_option maxRecDepth 100000 in
theorem Account_any {w : World} {F : Nat → Prop} {bb : Nat} {S : BookS} (h : BookAt w F bb S) (name : ByteArray) :
    Calls Tryz.prog 29 #[ptrV bb, .string name] w fun e w' => e = .returned (.tuple #[accV ((findA S.chart name).getD noA), .bool (findA S.chart name).isSome]) ∧ Below w.heap.size w w' := by
  obtain ⟨ρ, p, h, _⟩ := h
  have c1 := h.c1
  have hbl := heap_lt h.head
  obtain ⟨Fc, hc, _⟩ := h.chart
  have hf := fun o => Find_any (hc.below (bel1 w o)) name
  generalize (findA S.chart name).getD noA = a at *
  generalize (findA S.chart name).isSome = b at *
  clear h hc
  unfold ptrV accV at *
  go_enter Tryz.func29, Tryz.ntmps29
  go_wp2_with (go_at_call 46; refine (hf _).mono ?_; rintro e w1 ⟨rfl, hb⟩; clear hf; have hblk := (hb.block w.heap.size (by simp)).trans (World.alloc_heap_new w _); have k0 := cell_of_blk (i := 0) hblk; have k1 := cell_of_blk (i := 1) hblk; have k2 := cell_of_blk (i := 2) hblk; have k3 := cell_of_blk (i := 3) hblk; have f0 := frozen_blk hblk 0; have f1 := frozen_blk hblk 1; have f2 := frozen_blk hblk 2; have f3 := frozen_blk hblk 3; have HB := Lib.hid ((bel1 w _).trans (hb.mono (by simp))); clear hb hblk; simp only [List.getElem?_toArray, List.getElem?_cons_zero, List.getElem?_cons_succ] at k0 k1 k2 k3)
  refine bodyPost_ret (v := .tuple #[.agg #[.string a.name, .int .i64 a.typ, .int .i64 a.opened, .bool a.closed], .bool b]) ?_ rfl ⟨rfl, ?_⟩
  · simp [results, Tryz.results29, go_sem, k0, k1, k2, k3]
  · exact (((HB.out.setCell (Nat.le_refl _) _).setCell (Nat.le_refl _) _).setCell (Nat.le_refl _) _).setCell (Nat.le_refl _) _

end Go.Proofs.YtgocoofcelggcaaGreatDoor
namespace Go.Proofs.YtgocoofcelggcaaGreatDoor
open Go.RowKit
set_option linter.unusedVariables false
set_option linter.unusedSimpArgs false

theorem below_drewN {B : Nat} {a w : World} (h : Below B a w) (n : Nat) : Below B a (w.drewN n) := ⟨h.os, h.tape, h.output, h.size, h.block⟩

/-! ### mayAll -/
theorem mayAll_zero (L : List Acct) (day : Int) : ∀ (l : List LineV), (∀ x ∈ l, mayE L x.account day = 0) → mayAllE L day l = 0
  | [], _ => rfl
  | x :: l, h => by
    unfold mayAllE
    rw [if_pos (h x (by simp))]
    exact mayAll_zero L day l fun y hy => h y (by simp [hy])
theorem mayAll_at (L : List Acct) (day : Int) : ∀ (l : List LineV) (k : Nat) (hk : k < l.length), (∀ j (hj : j < l.length), j < k → mayE L l[j].account day = 0) → mayE L l[k].account day ≠ 0 → mayAllE L day l = mayE L l[k].account day
  | [], k, hk, _, _ => by simp at hk
  | x :: l, 0, _, _, h => by
    unfold mayAllE
    exact if_neg h
  | x :: l, k + 1, hk, h0, h => by
    unfold mayAllE
    rw [if_pos (show mayE L x.account day = 0 from h0 0 (by simp) (by omega))]
    exact mayAll_at L day l k (by simpa using hk) (fun j hj hjk => h0 (j + 1) (by simpa using hj) (by omega)) h

structure MayInv (w : World) (L : List Acct) (day : Int) (l : List LineV) (i : Value) (wr : World) (k : Nat) : Prop where
  le : k ≤ l.length
  at_ : i = .int .i64 (k : Int)
  all : ∀ j (hj : j < l.length), j < k → mayE L l[j].account day = 0
  bel : Below w.heap.size w wr

theorem ChartAt.drewN {w : World} {F : Nat → Prop} {cb : Nat} {L : List Acct} (h : ChartAt w F cb L) (n : Nat) : ChartAt (w.drewN n) F cb L := h.keep fun k _ _ => rfl
theorem may_quiet {w : World} {F : Nat → Prop} {cb : Nat} {L : List Acct} (h : ChartAt w F cb L) (name : ByteArray) (day : Int) (n : Nat) :
    Calls Tryz.prog 87 #[.pointer (some ⟨cb, 0, none⟩), .string name, .int .i64 day] (w.drewN n) fun e w' => e = .returned (.int .i64 (mayE L name day)) ∧ w' = w.drewN n :=
  (May_any (h.drewN n) name day).mono fun e w' ⟨h1, h2⟩ => ⟨h1, h2.symm⟩

set_option maxRecDepth 100000 in
set_option maxHeartbeats 2000000 in
theorem mayAll_any {w : World} {F : Nat → Prop} {bb : Nat} {S : BookS} (h : BookAt w F bb S) (R : Nat → Prop) (v : Value) (l : List LineV) (day : Int) (hl : l.length ≤ 1048576) (hL : LinesAt w R v l) :
    Calls Tryz.prog 95 #[ptrV bb, v, .int .i64 day] w fun e w' => e = .returned (.int .i64 (mayAllE S.chart day l)) ∧ Below w.heap.size w w' := by
  obtain ⟨ρ, p, h, _⟩ := h
  have hc1 := h.c1
  have hbl := heap_lt h.head
  obtain ⟨Fc, hch, _⟩ := h.chart
  obtain ⟨A, c, hv, hcl⟩ := hL
  rw [List.length_map] at hv
  subst hv
  have HC := Lib.hid hcl
  have HCH := Lib.hid hch
  obtain ⟨RV, hRV⟩ : ∃ RV, RV = mayAllE S.chart day l := ⟨_, rfl⟩
  rw [← hRV]
  have HRV := Lib.hid hRV
  generalize S.chart = L at *
  generalize p.cb = cb at *
  clear hcl hch hRV h
  unfold ptrV
  go_enter Tryz.func95, Tryz.ntmps95
  go_wp2
  go_loopw [12] (fun i wr => ∃ k, MayInv w L day l i wr k) (fun i _ => l.length - (intOf i).toNat)
  case atStart => exact ⟨0, Nat.zero_le _, rfl, fun _ _ h => absurd h (by omega), Below.refl _ _⟩
  case round =>
    obtain ⟨k, hk, rfl, hall, hbel⟩ := hrel
    have HA := Lib.hid hall
    clear hall
    by_cases hlt : k < l.length
    · obtain ⟨ad, rfl, hab, _, hcs⟩ := HC.out k (by rw [List.length_map]; exact hlt)
      rw [List.getElem_map] at hcs
      have at_ := mayAll_at L day l k hlt HA.out
      have AT := Lib.hid at_
      obtain ⟨x, hx⟩ : ∃ x, x = l[k] := ⟨_, rfl⟩
      rw [← hx] at hcs
      have HX := Lib.hid hx
      clear hx at_
      have hcw := fun i u hu => (hbel.cell (p := (ad.add (k * 3)).add i) (by rw [block_add, block_add]; exact hab)).trans (hcs i u hu)
      have c0 : wr.cell? (ad.add (k * 3)) = some (.string x.account) := hcw 0 _ rfl
      have c1 : wr.cell? ⟨(ad.add (k * 3)).block, (ad.add (k * 3)).off + 1, none⟩ = some (.int .i64 x.amount) := hcw 1 _ rfl
      have c2 : wr.cell? ⟨(ad.add (k * 3)).block, (ad.add (k * 3)).off + 2, none⟩ = some (.string x.tag) := hcw 2 _ rfl
      have hb1 : wr.cell? ⟨bb, 1, none⟩ = some (.pointer (some ⟨cb, 0, none⟩)) := (hbel.cell (p := ⟨bb, 1, none⟩) hbl).trans hc1
      have hbr : bb < wr.heap.size := by have := hbel.size; omega
      have hmay := fun o n => may_quiet ((HCH.out.below hbel).below (bel1 wr o)) x.account day n
      have hn0 := hbel.size
      clear hcw hcs
      obtain ⟨E, hE⟩ : ∃ E, E = mayE L x.account day := ⟨_, rfl⟩
      rw [← hE] at hmay
      have HE := Lib.hid hE
      clear hE
      by_cases h0 : E = 0
      · subst h0
        go_wp2
        go_quiet ((go_at_call 87; refine Calls.quiet_of_same (hmay _ _)))
        go_wp2
        go_roundw
        case rel => exact ⟨k + 1, by omega, by go_num, fun j hj hjk => (by
          by_cases e : j = k
          · subst e; rw [← HX.out, ← HE.out]
          · exact HA.out j hj (by omega)), below_drewN (hbel.alloc (by omega) _) _⟩
        case measure => simp [intOf]; omega
      · have he : (E != 0) = true := by rw [bne_iff_ne]; exact h0
        have HR := Lib.hid (show RV = E by rw [HRV.out, AT.out (by rw [← HX.out, ← HE.out]; exact h0), ← HX.out, ← HE.out])
        clear h0
        go_wp2
        go_quiet ((go_at_call 87; refine Calls.quiet_of_same (hmay _ _)))
        go_wp2
        go_ret
        exact ⟨by rw [HR.out]; rfl, below_drewN (hbel.alloc (by omega) _) _⟩
    · have HR := Lib.hid (show RV = 0 by
        rw [HRV.out]
        exact mayAll_zero L day l fun x hx => by
          obtain ⟨j, hj, rfl⟩ := List.getElem_of_mem hx
          exact HA.out j hj (by omega))
      go_wp2
      go_ret
      exact ⟨by rw [HR.out]; rfl, hbel⟩

/-! ### lines -/
theorem info_post : (Tryz.prog.info? 39).map (fun i => (i.zero, i.size, i.bytes)) = some (some (.agg #[.int .i64 0, .int .i64 0, .int .i64 0, .int .i64 0, .string ByteArray.empty, .string ByteArray.empty, .int .i64 0, .string ByteArray.empty, .string ByteArray.empty]), 9, 104) := by kernel_rfl

theorem linesFrom_append (S : BookS) (e : EventV) (s : Int) : ∀ (a b : List LineV) (i : Nat), linesFrom S e s i (a ++ b) = linesFrom S e s i a ++ linesFrom S e s (i + a.length) b
  | [], b, i => rfl
  | x :: a, b, i => by
    simp only [List.cons_append, linesFrom, List.length_cons]
    rw [linesFrom_append S e s a b (i + 1), show i + 1 + a.length = i + (a.length + 1) by omega]
theorem linesRows_take (S : BookS) (e : EventV) (s : Int) (l : List LineV) (k : Nat) (h : k < l.length) :
    linesRows S e s (l.take (k + 1)) = linesRows S e s (l.take k) ++ [rowV S e ((k : Int) + 1) l[k].account (s * l[k].amount) l[k].tag] := by
  unfold linesRows
  rw [List.take_succ_eq_append_getElem h, linesFrom_append]
  have : (l.take k).length = k := by rw [List.length_take]; omega
  rw [this, Nat.zero_add]
  rfl
theorem linesRows_len (S : BookS) (e : EventV) (s : Int) (l : List LineV) : (linesRows S e s l).length = l.length := by
  have : ∀ (l : List LineV) (i : Nat), (linesFrom S e s i l).length = l.length := by
    intro l
    induction l with
    | nil => intro i; rfl
    | cons x l ih => intro i; simp [linesFrom, ih]
  exact this l 0

theorem own_below {w w' : World} {B e s n : Nat} {v : Value} {xs : List Value} (h : w.ownsRow B e s v n xs) (hb : Below w.heap.size w w') : w'.ownsRow B e s v n xs :=
  ownsRow_keep h fun k hk => hb.block k (h.lt k hk).2

structure LinesInv (w : World) (S : BookS) (e : EventV) (sign : Int) (l : List LineV) (v i : Value) (wr : World) (k : Nat) : Prop where
  le : k ≤ l.length
  at_ : i = .int .i64 (k : Int)
  own : wr.ownsRow w.heap.size 39 9 v k ((linesRows S e sign (l.take k)).map encPost).flatten
  bel : Below w.heap.size w wr

theorem post_new (W : World) (r : PostV) (t : TypeId) : ∀ j u, (encPost r)[j]? = some u → (W.alloc (.cells (encPost r).toArray t)).cell? ((⟨W.heap.size, 0, none⟩ : Addr).add j) = some u := by
  intro j u hu
  rw [Addr.add_lit, cell_of_blk (World.alloc_heap_new W _)]
  simpa using hu
theorem post_one (r : PostV) : ∀ u ∈ encPost r, u.oneCell' = true := by
  intro u hu
  unfold encPost at hu
  simp at hu
  rcases hu with rfl | rfl | rfl | rfl | rfl | rfl | rfl | rfl | rfl <;> rfl

set_option maxRecDepth 100000 in
set_option maxHeartbeats 4000000 in
theorem lines_any {w : World} {F : Nat → Prop} {bb eb : Nat} {S : BookS} {e : EventV} {lv : Value} (h : BookAt w F bb S) (hev : 0 ≤ S.events ∧ S.events ≤ 1000) (hE : EvAt w eb e lv) (R : Nat → Prop) (v : Value) (l : List LineV) (sign : Int) (hl : l.length ≤ 12)
    (hL : LinesAt w R v l) (hs : sign = 1 ∨ sign = -1) (ham : ∀ x ∈ l, -maxA ≤ x.amount ∧ x.amount ≤ maxA) :
    Calls Tryz.prog 97 #[ptrV bb, ptrV eb, v, .int .i64 sign] w fun en w' => ∃ rv, en = .returned rv ∧ w'.ownsRow w.heap.size 39 9 rv (linesRows S e sign l).length ((linesRows S e sign l).map encPost).flatten ∧ Below w.heap.size w w' := by
  obtain ⟨i0, hi, hz0, hz1, hz2⟩ := info_parts info_post
  obtain ⟨ρ, p, h, _⟩ := h
  have hbl := heap_lt h.head
  have hel := heap_lt hE.blk
  have hrow : ∀ W, Below w.heap.size w W → ∀ line account amount tag, Calls Tryz.prog 99 #[ptrV bb, ptrV eb, .int .i64 line, .string account, .int .i64 amount, .string tag] W fun en w' => en = .returned (.agg (rowCs S e line account amount tag)) ∧ Below W.heap.size W w' := fun W hb line account amount tag => by
    have hs' := hb.size
    have hE' := hE.below hb
    exact row_any bb eb S e line account amount tag W (by omega) (by omega) ((hb.cell (p := ⟨bb, 0, none⟩) hbl).trans h.c0) hev hE'.e0 hE'.e1 hE'.e2 hE'.e10
  obtain ⟨A, c, hv, hcl⟩ := hL
  rw [List.length_map] at hv
  subst hv
  rw [linesRows_len]
  have HC := Lib.hid hcl
  have HROW := Lib.hid hrow
  have HAM := Lib.hid ham
  clear hcl hrow ham h hE
  unfold ptrV at HROW ⊢
  go_enter Tryz.func97, Tryz.ntmps97
  go_wp2
  go_loopw [9, 14] (fun v i wr => ∃ k, LinesInv w S e sign l v i wr k) (fun _ i _ => l.length - (intOf i).toNat)
  case atStart => exact ⟨0, Nat.zero_le _, rfl, World.ownsRow_nil _ _ _ _, Below.refl _ _⟩
  case round =>
    obtain ⟨k, hk, rfl, hown, hbel⟩ := hrel
    by_cases hlt : k < l.length
    · obtain ⟨ad, rfl, hab, _, hcs⟩ := HC.out k (by rw [List.length_map]; exact hlt)
      rw [List.getElem_map] at hcs
      have htk := linesRows_take S e sign l k hlt
      have hax := HAM.out _ (List.getElem_mem hlt)
      obtain ⟨x, hx⟩ : ∃ x, x = l[k] := ⟨_, rfl⟩
      rw [← hx] at hcs htk hax
      have HTK := Lib.hid htk
      clear hx htk
      have hcw := fun i u hu => (hbel.cell (p := (ad.add (k * 3)).add i) (by rw [block_add, block_add]; exact hab)).trans (hcs i u hu)
      have c0 : wr.cell? (ad.add (k * 3)) = some (.string x.account) := hcw 0 _ rfl
      have c1 : wr.cell? ⟨(ad.add (k * 3)).block, (ad.add (k * 3)).off + 1, none⟩ = some (.int .i64 x.amount) := hcw 1 _ rfl
      have c2 : wr.cell? ⟨(ad.add (k * 3)).block, (ad.add (k * 3)).off + 2, none⟩ = some (.string x.tag) := hcw 2 _ rfl
      have hn0 := hbel.size
      have hm : wrap64 (sign * x.amount) = sign * x.amount := by unfold maxA at hax; unfold wrap64; rcases hs with rfl | rfl <;> omega
      have hm' : IntKind.i64.wrap (sign * x.amount) = sign * x.amount := IntWalk.i64_in _ (by unfold maxA at hax; rcases hs with rfl | rfl <;> omega)
      have hr := HROW.out (wr.alloc (.cells #[.string x.account, .int .i64 x.amount, .string x.tag] 90)) (hbel.alloc (by omega) _) ((k : Int) + 1) x.account (sign * x.amount) x.tag
      simp only [rowCs, encPost, rowV] at hr
      have HO := Lib.hid hown
      clear hcw hcs hown hax hs
      go_wp2_with (first
        | (go_at_call 99; refine hr.mono ?_; rintro en w1 ⟨rfl, hb1⟩; clear hr; have HO2 := Lib.hid (own_below (HO.out.alloc (.cells #[.string x.account, .int .i64 x.amount, .string x.tag] 90)) hb1))
        | (at_builtin; refine wpList_append_own _ rfl _ _ 29 rfl w.heap.size 39 i0 (.agg #[.int .i64 0, .int .i64 0, .int .i64 0, .int .i64 0, .string ByteArray.empty, .string ByteArray.empty, .int .i64 0, .string ByteArray.empty, .string ByteArray.empty]) 9 104 Tryz.underlying29 hi hz0 hz1 hz2 rfl (by decide) _ _ _ rfl (HO2.out.alloc _) ⟨w1.heap.size, 0, none⟩ 1 1 (encPost (rowV S e ((k : Int) + 1) x.account (sign * x.amount) x.tag)) rfl rfl ?c1 ?c2 ?c3 ?c4 ?c5 ?_))
      case c1 => exact post_new _ _ _
      case c2 => exact post_one _
      case c3 => unfold maxLen; omega
      case c4 => omega
      case c5 => have := hb1.size; simp at this ⊢; omega
      intro v' w2 hown' hgrow _
      have hb0 : Below w.heap.size w (wr.alloc (.cells #[.string x.account, .int .i64 x.amount, .string x.tag] 90)) := hbel.alloc (by omega) _
      have hb2 : Below w.heap.size w w2 := ((hb0.trans (hb1.mono hb0.size)).alloc (by have := hb1.size; simp at this; omega) _).grown hgrow (by have := hb1.size; simp at this ⊢; omega) fun k' hk' => (HO.out.lt k' hk').1
      have HO1 := Lib.hid hown'
      clear hown' hgrow
      go_wp2
      go_roundw
      case rel => exact ⟨k + 1, by omega, by go_num, by
        have := HO1.out
        rw [HTK.out, List.map_append, List.flatten_append]
        simpa using this, hb2⟩
      case measure => simp [intOf]; omega
    · go_wp2
      go_ret
      obtain rfl : k = l.length := by omega
      rw [List.take_length] at hown
      exact ⟨_, rfl, hown, hbel⟩
end Go.Proofs.YtgocoofcelggcaaGreatDoor
namespace Go.Proofs.YtgocoofcelggcaaGreatDoor
open Go.RowKit
set_option linter.unusedVariables false
set_option linter.unusedSimpArgs false

theorem two_posts (W : World) (B : Nat) (r q : PostV) (hb : B ≤ W.heap.size) :
    (W.alloc (.cells (encPost r ++ encPost q).toArray 39)).ownsRow B 39 9 (.slice (some ⟨W.heap.size, 0, none⟩) 2 2) [r, q].length ([r, q].map encPost).flatten := by
  refine ⟨rfl, .inr ⟨W.heap.size, 2, (encPost r ++ encPost q).toArray, rfl, hb, World.alloc_heap_new W _, Nat.le_refl _, by unfold maxLen; decide, rfl, ?_⟩⟩
  simp [encPost]

set_option maxRecDepth 100000 in
set_option maxHeartbeats 4000000 in
theorem invoiced_any {w : World} {F : Nat → Prop} {bb eb : Nat} {S : BookS} {e : EventV} {lv : Value} (h : BookAt w F bb S) (hev : 0 ≤ S.events ∧ S.events ≤ 1000) (hE : EvAt w eb e lv) (ham : 0 < e.amount ∧ e.amount ≤ maxA) (hk : e.kind = 5) :
    Calls Tryz.prog 68 #[ptrV bb, ptrV eb] w fun en w' => ∃ rv, en = .returned rv ∧ w'.ownsRow w.heap.size 39 9 rv (rowsOf S e).length ((rowsOf S e).map encPost).flatten ∧ Below w.heap.size w w' := by
  obtain ⟨ρ, p, h, _⟩ := h
  have hbl := heap_lt h.head
  have hel := heap_lt hE.blk
  have hrow : ∀ W, Below w.heap.size w W → ∀ line account amount tag, Calls Tryz.prog 99 #[ptrV bb, ptrV eb, .int .i64 line, .string account, .int .i64 amount, .string tag] W fun en w' => en = .returned (.agg (rowCs S e line account amount tag)) ∧ Below W.heap.size W w' := fun W hb line account amount tag => by
    have hs' := hb.size
    have hE' := hE.below hb
    exact row_any bb eb S e line account amount tag W (by omega) (by omega) ((hb.cell (p := ⟨bb, 0, none⟩) hbl).trans h.c0) hev hE'.e0 hE'.e1 hE'.e2 hE'.e10
  have hkeep : ∀ W, Below w.heap.size w W → W.cell? ⟨eb, 3, none⟩ = some (.string e.account) ∧ W.cell? ⟨eb, 4, none⟩ = some (.string e.other) ∧ W.cell? ⟨eb, 9, none⟩ = some (.int .i64 e.amount) ∧ Below w.heap.size w W := fun W hb => by
    have hE' := hE.below hb
    exact ⟨hE'.e3, hE'.e4, hE'.e9, hb⟩
  have hrs : rowsOf S e = [rowV S e 1 e.account e.amount emptyB, rowV S e 2 e.other (-e.amount) emptyB] := by unfold rowsOf; simp [hk]
  rw [hrs]
  have HK := Lib.hid hkeep
  have hm : wrap64 (-e.amount) = -e.amount := by unfold maxA at ham; unfold wrap64; omega
  have hm' : IntKind.i64.wrap (-e.amount) = -e.amount := IntWalk.i64_in _ (by unfold maxA at ham; omega)
  obtain ⟨g0, g1, g2, g3⟩ := hkeep w.drew (Below.refl _ _).drew
  have ha := fun W hb => hrow W hb 1 e.account e.amount emptyB
  have hb := fun W hb => hrow W hb 2 e.other (-e.amount) emptyB
  simp only [rowCs, encPost, rowV, emptyB] at ha hb
  unfold ptrV at ha hb ⊢
  clear hkeep hrow h hE hrs ham hk
  go_enter Tryz.func68, Tryz.ntmps68
  go_wp2
  go_region_held3 (fun w' => w'.cell? ⟨eb, 3, none⟩ = some (.string e.account) ∧ w'.cell? ⟨eb, 4, none⟩ = some (.string e.other) ∧ w'.cell? ⟨eb, 9, none⟩ = some (.int .i64 e.amount) ∧ Below w.heap.size w w')
    (first | exact ⟨g0, g1, g2, g3⟩ | exact HK.out _ (by assumption) | (refine HK.out _ ?_; exact Below.alloc (by assumption) (by first | assumption | exact Below.size (by assumption)) _))
    (first
      | (go_at_call 99; refine (ha _ (by assumption)).mono ?_; rintro en w1 ⟨rfl, hb1⟩; have g3' := Below.trans (by assumption) (hb1.mono (Below.size (by assumption))); obtain ⟨k0, k1, k2, k3⟩ := HK.out w1 g3'; clear ha g3')
      | (go_at_call 99; refine (hb _ (by assumption)).mono ?_; rintro en w1 ⟨rfl, hb1⟩; have g3' := Below.trans (by assumption) (hb1.mono (Below.size (by assumption))); obtain ⟨k0, k1, k2, k3⟩ := HK.out w1 g3'; clear hb g3'))
  go_wp2
  go_ret
  exact ⟨_, rfl, two_posts w1 w.heap.size (rowV S e 1 e.account e.amount emptyB) (rowV S e 2 e.other (-e.amount) emptyB) k3.size, k3.alloc k3.size _⟩
set_option maxRecDepth 100000 in
set_option maxHeartbeats 4000000 in
theorem paid_any {w : World} {F : Nat → Prop} {bb eb : Nat} {S : BookS} {e : EventV} {lv : Value} (h : BookAt w F bb S) (hev : 0 ≤ S.events ∧ S.events ≤ 1000) (hE : EvAt w eb e lv) (ham : 0 < e.amount ∧ e.amount ≤ maxA) (hk : e.kind = 6) :
    Calls Tryz.prog 71 #[ptrV bb, ptrV eb] w fun en w' => ∃ rv, en = .returned rv ∧ w'.ownsRow w.heap.size 39 9 rv (rowsOf S e).length ((rowsOf S e).map encPost).flatten ∧ Below w.heap.size w w' := by
  obtain ⟨ρ, p, h, _⟩ := h
  have hbl := heap_lt h.head
  have hel := heap_lt hE.blk
  have hrow : ∀ W, Below w.heap.size w W → ∀ line account amount tag, Calls Tryz.prog 99 #[ptrV bb, ptrV eb, .int .i64 line, .string account, .int .i64 amount, .string tag] W fun en w' => en = .returned (.agg (rowCs S e line account amount tag)) ∧ Below W.heap.size W w' := fun W hb line account amount tag => by
    have hs' := hb.size
    have hE' := hE.below hb
    exact row_any bb eb S e line account amount tag W (by omega) (by omega) ((hb.cell (p := ⟨bb, 0, none⟩) hbl).trans h.c0) hev hE'.e0 hE'.e1 hE'.e2 hE'.e10
  have hkeep : ∀ W, Below w.heap.size w W → W.cell? ⟨eb, 3, none⟩ = some (.string e.account) ∧ W.cell? ⟨eb, 4, none⟩ = some (.string e.other) ∧ W.cell? ⟨eb, 9, none⟩ = some (.int .i64 e.amount) ∧ Below w.heap.size w W := fun W hb => by
    have hE' := hE.below hb
    exact ⟨hE'.e3, hE'.e4, hE'.e9, hb⟩
  have hrs : rowsOf S e = [rowV S e 1 e.other e.amount emptyB, rowV S e 2 e.account (-e.amount) emptyB] := by unfold rowsOf; simp [hk]
  rw [hrs]
  have HK := Lib.hid hkeep
  have hm : wrap64 (-e.amount) = -e.amount := by unfold maxA at ham; unfold wrap64; omega
  have hm' : IntKind.i64.wrap (-e.amount) = -e.amount := IntWalk.i64_in _ (by unfold maxA at ham; omega)
  obtain ⟨g0, g1, g2, g3⟩ := hkeep w.drew (Below.refl _ _).drew
  have ha := fun W hb => hrow W hb 1 e.other e.amount emptyB
  have hb := fun W hb => hrow W hb 2 e.account (-e.amount) emptyB
  simp only [rowCs, encPost, rowV, emptyB] at ha hb
  unfold ptrV at ha hb ⊢
  clear hkeep hrow h hE hrs ham hk
  go_enter Tryz.func71, Tryz.ntmps71
  go_wp2
  go_region_held3 (fun w' => w'.cell? ⟨eb, 3, none⟩ = some (.string e.account) ∧ w'.cell? ⟨eb, 4, none⟩ = some (.string e.other) ∧ w'.cell? ⟨eb, 9, none⟩ = some (.int .i64 e.amount) ∧ Below w.heap.size w w')
    (first | exact ⟨g0, g1, g2, g3⟩ | exact HK.out _ (by assumption) | (refine HK.out _ ?_; exact Below.alloc (by assumption) (by first | assumption | exact Below.size (by assumption)) _))
    (first
      | (go_at_call 99; refine (ha _ (by assumption)).mono ?_; rintro en w1 ⟨rfl, hb1⟩; have g3' := Below.trans (by assumption) (hb1.mono (Below.size (by assumption))); obtain ⟨k0, k1, k2, k3⟩ := HK.out w1 g3'; clear ha g3')
      | (go_at_call 99; refine (hb _ (by assumption)).mono ?_; rintro en w1 ⟨rfl, hb1⟩; have g3' := Below.trans (by assumption) (hb1.mono (Below.size (by assumption))); obtain ⟨k0, k1, k2, k3⟩ := HK.out w1 g3'; clear hb g3'))
  go_wp2
  go_ret
  exact ⟨_, rfl, two_posts w1 w.heap.size (rowV S e 1 e.other e.amount emptyB) (rowV S e 2 e.account (-e.amount) emptyB) k3.size, k3.alloc k3.size _⟩

/-! ### grown -/
structure GrowInv (w : World) (t : Int) (l : List PostV) (v i : Value) (wr : World) (k : Nat) : Prop where
  le : k ≤ l.length
  at_ : i = .int .i64 (k : Int)
  sum : v = .int .i64 (t + sumAbs (l.take k))
  fits : t + sumAbs (l.take k) ≤ maxA
  bel : Below w.heap.size w wr

theorem sumAbs_take (l : List PostV) (k : Nat) (h : k < l.length) : sumAbs (l.take (k + 1)) = sumAbs (l.take k) + absI l[k].amount := by
  rw [List.take_succ_eq_append_getElem h, sumAbs_append, sumAbs_cons]
  simp [sumAbs]
theorem sumAbs_le (l : List PostV) (k : Nat) : sumAbs (l.take k) ≤ sumAbs l := by
  have := sumAbs_append (l.take k) (l.drop k)
  rw [List.take_append_drop] at this
  have := sumAbs_nonneg (l.drop k)
  omega

def grownV (o : Option Int) : Value := match o with | none => .tuple #[.int .i64 0, .bool false] | some t => .tuple #[.int .i64 t, .bool true]

set_option maxRecDepth 100000 in
set_option maxHeartbeats 4000000 in
theorem grown_any (bb : Nat) (t : Int) (w : World) (hbl : bb < w.heap.size) (hc : w.cell? ⟨bb, 13, none⟩ = some (.int .i64 t)) (ht : 0 ≤ t ∧ t ≤ maxA) (R : Nat → Prop) (v : Value) (l : List PostV) (hl : l.length ≤ 1048576) (hL : PostsAt w R v l)
    (ham : ∀ r ∈ l, -maxA ≤ r.amount ∧ r.amount ≤ maxA) :
    Calls Tryz.prog 40 #[ptrV bb, v] w fun e w' => e = .returned (grownV (grownF t l)) ∧ Below w.heap.size w w' := by
  obtain ⟨A, c, hv, hcl⟩ := hL
  rw [List.length_map] at hv
  subst hv
  have HC := Lib.hid hcl
  have HAM := Lib.hid ham
  obtain ⟨RV, hRV⟩ : ∃ RV, RV = grownV (grownF t l) := ⟨_, rfl⟩
  rw [← hRV]
  have HRV := Lib.hid hRV
  unfold maxA at ht
  clear hcl ham hRV
  unfold ptrV
  go_enter Tryz.func40, Tryz.ntmps40
  go_wp2
  go_loopw [6, 17] (fun v i wr => ∃ k, GrowInv w t l v i wr k) (fun _ i _ => l.length - (intOf i).toNat)
  case atStart => exact ⟨0, Nat.zero_le _, rfl, by simp [sumAbs], by simp [sumAbs, maxA]; omega, Below.refl _ _⟩
  case round =>
    obtain ⟨k, hk, rfl, rfl, hfit, hbel⟩ := hrel
    by_cases hlt : k < l.length
    · obtain ⟨ad, rfl, hab, _, hcs⟩ := HC.out k (by rw [List.length_map]; exact hlt)
      rw [List.getElem_map] at hcs
      have hts := sumAbs_take l k hlt
      have hax := HAM.out _ (List.getElem_mem hlt)
      have hnn := sumAbs_nonneg (l.take k)
      have hle := sumAbs_le l (k + 1)
      obtain ⟨r, hr⟩ : ∃ r, r = l[k] := ⟨_, rfl⟩
      rw [← hr] at hcs hts hax
      have HTS := Lib.hid hts
      clear hr
      obtain ⟨T, hT⟩ : ∃ T, T = t + sumAbs (l.take k) := ⟨_, rfl⟩
      have hT0 : 0 ≤ T := by omega
      rw [← hT] at hfit ⊢
      have hab0 := absI_nonneg r.amount
      have hab1 : absI r.amount ≤ 9223372036854775807 := by unfold maxA at hax; unfold absI; split <;> omega
      unfold maxA at hfit
      have hcw := fun i u hu => (hbel.cell (p := (ad.add (k * 9)).add i) (by rw [block_add, block_add]; exact hab)).trans (hcs i u hu)
      have c0 : wr.cell? (ad.add (k * 9)) = some (.int .i64 r.seq) := hcw 0 _ rfl
      have c1 : wr.cell? ⟨(ad.add (k * 9)).block, (ad.add (k * 9)).off + 1, none⟩ = some (.int .i64 r.line) := hcw 1 _ rfl
      have c2 : wr.cell? ⟨(ad.add (k * 9)).block, (ad.add (k * 9)).off + 2, none⟩ = some (.int .i64 r.day) := hcw 2 _ rfl
      have c3 : wr.cell? ⟨(ad.add (k * 9)).block, (ad.add (k * 9)).off + 3, none⟩ = some (.int .i64 r.kind) := hcw 3 _ rfl
      have c4 : wr.cell? ⟨(ad.add (k * 9)).block, (ad.add (k * 9)).off + 4, none⟩ = some (.string r.key) := hcw 4 _ rfl
      have c5 : wr.cell? ⟨(ad.add (k * 9)).block, (ad.add (k * 9)).off + 5, none⟩ = some (.string r.account) := hcw 5 _ rfl
      have c6 : wr.cell? ⟨(ad.add (k * 9)).block, (ad.add (k * 9)).off + 6, none⟩ = some (.int .i64 r.amount) := hcw 6 _ rfl
      have c7 : wr.cell? ⟨(ad.add (k * 9)).block, (ad.add (k * 9)).off + 7, none⟩ = some (.string r.tag) := hcw 7 _ rfl
      have c8 : wr.cell? ⟨(ad.add (k * 9)).block, (ad.add (k * 9)).off + 8, none⟩ = some (.string r.memo) := hcw 8 _ rfl
      have hn0 := hbel.size
      have hm : wrap64 (-r.amount) = -r.amount := by unfold maxA at hax; unfold wrap64; omega
      have hm' : IntKind.i64.wrap (-r.amount) = -r.amount := IntWalk.i64_in _ (by unfold maxA at hax; omega)
      have hmax : max r.amount (-r.amount) = absI r.amount := by unfold absI; split <;> omega
      have hadd := fun W => Add_up T (absI r.amount) W hT0 hfit hab0 hab1
      obtain ⟨B, hB⟩ : ∃ B, B = absI r.amount := ⟨_, rfl⟩
      rw [← hB] at hadd hmax hts
      have HTT := Lib.hid (show t + sumAbs (l.take (k + 1)) = T + B by omega)
      have HLE := Lib.hid hle
      clear hcw hcs hab0 hab1 hts hle hT hB HTS hax hnn
      by_cases hf : T + B ≤ 9223372036854775807
      · simp only [if_pos hf] at hadd
        go_wp2_with (go_at_call 76; refine (hadd _).mono ?_; rintro en w1 ⟨rfl, rfl⟩)
        go_roundw
        case rel => exact ⟨k + 1, by omega, by go_num, by rw [HTT.out], by rw [HTT.out]; exact hf, hbel.alloc (by omega) _⟩
        case measure => simp [intOf]; omega
      · simp only [if_neg hf] at hadd
        have HR := Lib.hid (show RV = .tuple #[.int .i64 0, .bool false] by
          rw [HRV.out]
          have h1 := HTT.out
          have h2 := HLE.out
          unfold grownF
          rw [if_neg (by unfold maxA; omega)]
          rfl)
        go_wp2_with (go_at_call 76; refine (hadd _).mono ?_; rintro en w1 ⟨rfl, rfl⟩)
        go_ret2
        exact ⟨by rw [HR.out]; rfl, hbel.alloc (by omega) _⟩
    · obtain rfl : k = l.length := by omega
      rw [List.take_length] at hfit ⊢
      have HR := Lib.hid (show RV = .tuple #[.int .i64 (t + sumAbs l), .bool true] by
        rw [HRV.out]
        unfold grownF
        rw [if_pos hfit]
        rfl)
      go_wp2
      go_ret2
      exact ⟨by rw [HR.out]; rfl, hbel⟩
end Go.Proofs.YtgocoofcelggcaaGreatDoor
namespace Go.Proofs.YtgocoofcelggcaaGreatDoor
open Go.RowKit
set_option linter.unusedVariables false
set_option linter.unusedSimpArgs false

/-! ### An account's box -/
@[reducible] def accBox (a : Acct) : Array Value := #[.string a.name, .int .i64 a.typ, .int .i64 a.opened, .bool a.closed]
@[reducible] def noBox : Array Value := #[.string ⟨#[]⟩, .int .i64 0, .int .i64 0, .bool false]
theorem box_set {w1 : World} {b : Nat} {t : TypeId} (h : w1.heap[b]? = some (.cells noBox t (0, 0))) (a : Acct) :
    ((((w1.setCell ⟨b, 0, none⟩ (.string a.name)).setCell ⟨b, 1, none⟩ (.int .i64 a.typ)).setCell ⟨b, 2, none⟩ (.int .i64 a.opened)).setCell ⟨b, 3, none⟩ (.bool a.closed)).heap[b]? = some (.cells (accBox a) t (0, 0)) :=
  heap_setCell_same (heap_setCell_same (heap_setCell_same (heap_setCell_same h _) _) _) _
theorem box_cells {W : World} {b : Nat} {t : TypeId} {a : Acct} (h : W.heap[b]? = some (.cells (accBox a) t (0, 0))) :
    W.cell? ⟨b, 0, none⟩ = some (.string a.name) ∧ W.cell? ⟨b, 1, none⟩ = some (.int .i64 a.typ) ∧ W.cell? ⟨b, 2, none⟩ = some (.int .i64 a.opened) ∧ W.cell? ⟨b, 3, none⟩ = some (.bool a.closed) :=
  ⟨by rw [cell_of_blk h]; rfl, by rw [cell_of_blk h]; rfl, by rw [cell_of_blk h]; rfl, by rw [cell_of_blk h]; rfl⟩
theorem grow_past {B : Nat} {a V w1 : World} {o : Obj} (g : Below B a V) (hB : B ≤ V.heap.size) (hb : Below (V.alloc o).drew.heap.size (V.alloc o).drew w1) : Below B a w1 ∧ w1.heap[V.heap.size]? = some o := by
  have h1 : Below B a (V.alloc o).drew := (g.alloc hB o).drew
  have h2 : V.heap.size < (V.alloc o).drew.heap.size := by
    show V.heap.size < (V.alloc o).heap.size
    simp
  exact ⟨h1.trans (hb.mono (by omega)), (hb.block _ h2).trans (World.alloc_heap_new V o)⟩
theorem grow_plain {B : Nat} {a V w1 : World} (g : Below B a V) (hB : B ≤ V.heap.size) (hb : Below V.drew.heap.size V.drew w1) : Below B a w1 := g.drew.trans (hb.mono hB)
theorem box_facts {W : World} {b : Nat} {t : TypeId} (h : W.heap[b]? = some (.cells noBox t (0, 0))) :
    W.cell? ⟨b, 0, none⟩ = some (.string ⟨#[]⟩) ∧ W.cell? ⟨b, 1, none⟩ = some (.int .i64 0) ∧ W.cell? ⟨b, 2, none⟩ = some (.int .i64 0) ∧ W.cell? ⟨b, 3, none⟩ = some (.bool false) ∧
    W.frozen? ⟨b, 0, none⟩ = false ∧ W.frozen? ⟨b, 1, none⟩ = false ∧ W.frozen? ⟨b, 2, none⟩ = false ∧ W.frozen? ⟨b, 3, none⟩ = false :=
  ⟨by rw [cell_of_blk h]; rfl, by rw [cell_of_blk h]; rfl, by rw [cell_of_blk h]; rfl, by rw [cell_of_blk h]; rfl, frozen_blk h 0, frozen_blk h 1, frozen_blk h 2, frozen_blk h 3⟩
theorem below_ad {B : Nat} {a V : World} (g : Below B a V) (hB : B ≤ V.heap.size) (o : Obj) : Below B a (V.alloc o).drew := (g.alloc hB o).drew
theorem set4 {B : Nat} {a w1 : World} (h : Below B a w1) {p q r s : Addr} (hp : B ≤ p.block) (hq : B ≤ q.block) (hr : B ≤ r.block) (hs : B ≤ s.block) (v0 v1 v2 v3 : Value) : Below B a ((((w1.setCell p v0).setCell q v1).setCell r v2).setCell s v3) :=
  (((h.setCell hp _).setCell hq _).setCell hr _).setCell hs _

theorem set4' {B b : Nat} {a w1 : World} (h : Below B a w1) (hb : B ≤ b) (v0 v1 v2 v3 : Value) : Below B a ((((w1.setCell ⟨b, 0, none⟩ v0).setCell ⟨b, 1, none⟩ v1).setCell ⟨b, 2, none⟩ v2).setCell ⟨b, 3, none⟩ v3) := set4 h hb hb hb hb _ _ _ _

section
variable {w : World} {F : Nat → Prop} {bb eb : Nat} {S : BookS} {e : EventV} {lv : Value}

/-! ### mayLock -/
theorem mayLock_any (h : BookAt w F bb S) (hE : EvAt w eb e lv) :
    Calls Tryz.prog 74 #[ptrV bb, ptrV eb] w fun en w' => en = .returned (.int .i64 (mayLockE S e)) ∧ Below w.heap.size w w' := by
  obtain ⟨ρ, p, h, _⟩ := h
  have c12 := h.c12
  have e1 := hE.e1
  unfold mayLockE ptrV
  clear h hE
  by_cases hd : e.day ≤ S.lock
  · rw [if_pos hd]
    go_enter Tryz.func74, Tryz.ntmps74
    go_wp2
    go_quiet (fail)
    go_wp2
    go_ret
    exact ⟨rfl, below_drewN (Below.refl _ _) _⟩
  · rw [if_neg hd]
    have hd' : S.lock < e.day := by omega
    go_enter Tryz.func74, Tryz.ntmps74
    go_wp2
    go_quiet (fail)
    go_wp2
    go_ret
    exact ⟨rfl, below_drewN (Below.refl _ _) _⟩

/-! ### mayOpen -/
theorem acc_slice {B : Nat} {W : World} {L : List Acct} {v : Value} (h : AccRow B W L v) : ∃ A c, v = .slice A L.length c := by
  cases h with
  | nil h => exact ⟨none, 0, by rw [h]; rfl⟩
  | row b c hb h => exact ⟨_, c, rfl⟩

set_option maxRecDepth 100000 in
set_option maxHeartbeats 4000000 in
theorem mayOpen_any (h : BookAt w F bb S) (hv : Valid S.chart) (hE : EvAt w eb e lv) (hsz : e.account.size ≤ 140737488355328) :
    Calls Tryz.prog 56 #[ptrV bb, ptrV eb] w fun en w' => en = .returned (.int .i64 (mayOpenE S e)) ∧ Below w.heap.size w w' := by
  obtain ⟨ρ, p, h, _⟩ := h
  have hbl := heap_lt h.head
  have hel := heap_lt hE.blk
  obtain ⟨Fc, hch, _⟩ := h.chart
  have hkeep : ∀ W, Below w.heap.size w W → W.cell? ⟨bb, 1, none⟩ = some (.pointer (some ⟨p.cb, 0, none⟩)) ∧ W.cell? ⟨eb, 1, none⟩ = some (.int .i64 e.day) ∧ W.cell? ⟨eb, 3, none⟩ = some (.string e.account) ∧ Below w.heap.size w W := fun W hb => by
    have hE' := hE.below hb
    exact ⟨(hb.cell (p := ⟨bb, 1, none⟩) hbl).trans h.c1, hE'.e1, hE'.e3, hb⟩
  have hfind := fun W (hb : Below w.heap.size w W) => Find_any (hch.below hb) e.account
  have hacc := fun W (hb : Below w.heap.size w W) => Accounts_any (hch.below hb) hv
  have hpar := fun W => Parent_any e.account W hsz
  have hmay := fun W (hb : Below w.heap.size w W) u n => may_quiet (hch.below hb) u e.day n
  have HK := Lib.hid hkeep
  obtain ⟨g0, g1, g2, g3⟩ := hkeep w.drew (Below.refl _ _).drew
  have hV0 : Below w.heap.size w w := Below.refl _ _
  unfold mayOpenE ptrV
  generalize S.chart = L at *
  generalize p.cb = cb at *
  unfold accV at hfind
  clear hkeep h hE hv hch
  have HM := Lib.hid hmay
  clear hmay
  obtain ⟨a, ha⟩ : ∃ a, a = (findA L e.account).getD noA := ⟨_, rfl⟩
  rw [← ha] at hfind
  clear ha
  cases hf : (findA L e.account).isSome with
  | true =>
    rw [hf] at hfind
    clear hf
    go_enter Tryz.func56, Tryz.ntmps56
    go_wp2
    go_region_held3 (fun w' => w'.cell? ⟨bb, 1, none⟩ = some (.pointer (some ⟨cb, 0, none⟩)) ∧ w'.cell? ⟨eb, 1, none⟩ = some (.int .i64 e.day) ∧ w'.cell? ⟨eb, 3, none⟩ = some (.string e.account) ∧ Below w.heap.size w w')
      (first | with_reducible exact ⟨g0, g1, g2, g3⟩ | with_reducible exact HK.out _ (below_ad hV0 hV0.size _) | with_reducible exact HK.out _ (by with_reducible assumption) | with_reducible exact HK.out _ (Below.alloc (by with_reducible assumption) (Below.size (by with_reducible assumption)) _) | with_reducible exact HK.out _ (set4' (by with_reducible assumption) hV0.size _ _ _ _))
      (first
        | (go_at_call 46; refine (hfind _ (by with_reducible exact g3)).mono ?_; rintro en w1 ⟨rfl, hb1⟩; have g3' : Below w.heap.size w w1 := (by with_reducible exact grow_plain (V := w) hV0 hV0.size hb1); obtain ⟨k0, k1, k2, k3⟩ := HK.out w1 g3'; clear g3' hfind)
        | (go_at_call 46; refine (hfind _ (by with_reducible exact below_ad hV0 hV0.size _)).mono ?_; rintro en w1 ⟨rfl, hb1⟩; have gp : Below w.heap.size w w1 ∧ w1.heap[w.heap.size]? = some (.cells noBox 65 (0, 0)) := (by with_reducible exact grow_past (V := w) hV0 hV0.size hb1); obtain ⟨g3', hbx⟩ := gp; obtain ⟨k0, k1, k2, k3⟩ := HK.out w1 g3'; obtain ⟨hbk, hbk1, hbk2, hbk3, hbf, hbf1, hbf2, hbf3⟩ := box_facts hbx; clear g3' hfind))
    all_goals first
      | (have hX := box_set hbx a
         have hB2 := set4 k3 (p := ⟨w.heap.size, 0, none⟩) (q := ⟨w.heap.size, 1, none⟩) (r := ⟨w.heap.size, 2, none⟩) (s := ⟨w.heap.size, 3, none⟩) hV0.size hV0.size hV0.size hV0.size (.string a.name) (.int .i64 a.typ) (.int .i64 a.opened) (.bool a.closed)
         obtain ⟨W2, hW2_⟩ : ∃ W2, (((w1.setCell ⟨w.heap.size, 0, none⟩ (.string a.name)).setCell ⟨w.heap.size, 1, none⟩ (.int .i64 a.typ)).setCell ⟨w.heap.size, 2, none⟩ (.int .i64 a.opened)).setCell ⟨w.heap.size, 3, none⟩ (.bool a.closed) = W2 := ⟨_, rfl⟩
         rw [hW2_] at hX hB2 ⊢
         clear hW2_)
      | (have hX := World.alloc_heap_new w1 (.cells #[.string a.name, .int .i64 a.typ, .int .i64 a.opened, .bool a.closed] 65)
         have hB2 := k3.alloc k3.size (.cells #[.string a.name, .int .i64 a.typ, .int .i64 a.opened, .bool a.closed] 65)
         obtain ⟨W2, hW2_⟩ : ∃ W2, w1.alloc (.cells #[.string a.name, .int .i64 a.typ, .int .i64 a.opened, .bool a.closed] 65) = W2 := ⟨_, rfl⟩
         rw [hW2_] at hX hB2 ⊢
         clear hW2_)
    all_goals
      go_wp2
      go_ret
      exact ⟨rfl, hB2⟩
  | false =>
    rw [hf] at hfind
    clear hf
    by_cases hL : 100 ≤ L.length
    · simp only [Bool.false_eq_true, if_false, if_pos hL]
      have hL' : (100 : Int) ≤ (L.length : Int) := by omega
      go_enter Tryz.func56, Tryz.ntmps56
      go_wp2
      go_region_held3 (fun w' => w'.cell? ⟨bb, 1, none⟩ = some (.pointer (some ⟨cb, 0, none⟩)) ∧ w'.cell? ⟨eb, 1, none⟩ = some (.int .i64 e.day) ∧ w'.cell? ⟨eb, 3, none⟩ = some (.string e.account) ∧ Below w.heap.size w w')
        (first | with_reducible exact ⟨g0, g1, g2, g3⟩ | with_reducible exact HK.out _ (below_ad hV0 hV0.size _) | with_reducible exact HK.out _ (by with_reducible assumption) | with_reducible exact HK.out _ (Below.alloc (by with_reducible assumption) (Below.size (by with_reducible assumption)) _) | with_reducible exact HK.out _ (set4' (by with_reducible assumption) hV0.size _ _ _ _))
        (first
          | (go_at_call 46; refine (hfind _ (by with_reducible exact g3)).mono ?_; rintro en w1 ⟨rfl, hb1⟩; have g3' : Below w.heap.size w w1 := (by with_reducible exact grow_plain (V := w) hV0 hV0.size hb1); obtain ⟨k0, k1, k2, k3⟩ := HK.out w1 g3'; clear g3' hfind)
          | (go_at_call 46; refine (hfind _ (by with_reducible exact below_ad hV0 hV0.size _)).mono ?_; rintro en w1 ⟨rfl, hb1⟩; have gp : Below w.heap.size w w1 ∧ w1.heap[w.heap.size]? = some (.cells noBox 65 (0, 0)) := (by with_reducible exact grow_past (V := w) hV0 hV0.size hb1); obtain ⟨g3', hbx⟩ := gp; obtain ⟨k0, k1, k2, k3⟩ := HK.out w1 g3'; obtain ⟨hbk, hbk1, hbk2, hbk3, hbf, hbf1, hbf2, hbf3⟩ := box_facts hbx; clear g3' hfind))
      all_goals first
        | (have hX := box_set hbx a
           have hB2 := set4 k3 (p := ⟨w.heap.size, 0, none⟩) (q := ⟨w.heap.size, 1, none⟩) (r := ⟨w.heap.size, 2, none⟩) (s := ⟨w.heap.size, 3, none⟩) hV0.size hV0.size hV0.size hV0.size (.string a.name) (.int .i64 a.typ) (.int .i64 a.opened) (.bool a.closed)
           obtain ⟨W2, hW2_⟩ : ∃ W2, (((w1.setCell ⟨w.heap.size, 0, none⟩ (.string a.name)).setCell ⟨w.heap.size, 1, none⟩ (.int .i64 a.typ)).setCell ⟨w.heap.size, 2, none⟩ (.int .i64 a.opened)).setCell ⟨w.heap.size, 3, none⟩ (.bool a.closed) = W2 := ⟨_, rfl⟩
           rw [hW2_] at hX hB2 ⊢
           clear hW2_)
        | (have hX := World.alloc_heap_new w1 (.cells #[.string a.name, .int .i64 a.typ, .int .i64 a.opened, .bool a.closed] 65)
           have hB2 := k3.alloc k3.size (.cells #[.string a.name, .int .i64 a.typ, .int .i64 a.opened, .bool a.closed] 65)
           obtain ⟨W2, hW2_⟩ : ∃ W2, w1.alloc (.cells #[.string a.name, .int .i64 a.typ, .int .i64 a.opened, .bool a.closed] 65) = W2 := ⟨_, rfl⟩
           rw [hW2_] at hX hB2 ⊢
           clear hW2_)
      all_goals
        have hac := hacc _ hB2
        obtain ⟨j0, j1, j2, j3⟩ := HK.out W2 hB2
        go_wp2_with (first
          | (go_at_call 34; refine hac.mono ?_; rintro en w2 ⟨v, rfl, hr, hb2⟩; clear hac; obtain ⟨A2, c2, rfl⟩ := acc_slice hr; clear hr; have k5 := hB2.trans (hb2.mono hB2.size); obtain ⟨m0, m1, m2, m3⟩ := HK.out w2 k5)
          | (go_at_call 86; refine (hpar _).mono ?_; rintro en w3 ⟨rfl, hb3⟩; have k6 := k5.trans (hb3.mono k5.size); obtain ⟨n0, n1, n2, n3⟩ := HK.out w3 k6))
        go_ret
        exact ⟨rfl, k5⟩
    · have hL' : (L.length : Int) < 100 := by omega
      simp only [Bool.false_eq_true, if_false, if_neg hL]
      cases hp : parentF e.account with
      | none =>
        rw [hp] at hpar
        simp only [Option.getD_none, Option.isSome_none] at hpar
        clear hp
        go_enter Tryz.func56, Tryz.ntmps56
        go_wp2
        go_region_held3 (fun w' => w'.cell? ⟨bb, 1, none⟩ = some (.pointer (some ⟨cb, 0, none⟩)) ∧ w'.cell? ⟨eb, 1, none⟩ = some (.int .i64 e.day) ∧ w'.cell? ⟨eb, 3, none⟩ = some (.string e.account) ∧ Below w.heap.size w w')
          (first | with_reducible exact ⟨g0, g1, g2, g3⟩ | with_reducible exact HK.out _ (below_ad hV0 hV0.size _) | with_reducible exact HK.out _ (by with_reducible assumption) | with_reducible exact HK.out _ (Below.alloc (by with_reducible assumption) (Below.size (by with_reducible assumption)) _) | with_reducible exact HK.out _ (set4' (by with_reducible assumption) hV0.size _ _ _ _))
          (first
            | (go_at_call 46; refine (hfind _ (by with_reducible exact g3)).mono ?_; rintro en w1 ⟨rfl, hb1⟩; have g3' : Below w.heap.size w w1 := (by with_reducible exact grow_plain (V := w) hV0 hV0.size hb1); obtain ⟨k0, k1, k2, k3⟩ := HK.out w1 g3'; clear g3' hfind)
            | (go_at_call 46; refine (hfind _ (by with_reducible exact below_ad hV0 hV0.size _)).mono ?_; rintro en w1 ⟨rfl, hb1⟩; have gp : Below w.heap.size w w1 ∧ w1.heap[w.heap.size]? = some (.cells noBox 65 (0, 0)) := (by with_reducible exact grow_past (V := w) hV0 hV0.size hb1); obtain ⟨g3', hbx⟩ := gp; obtain ⟨k0, k1, k2, k3⟩ := HK.out w1 g3'; obtain ⟨hbk, hbk1, hbk2, hbk3, hbf, hbf1, hbf2, hbf3⟩ := box_facts hbx; clear g3' hfind))
        all_goals first
          | (have hX := box_set hbx a
             have hB2 := set4 k3 (p := ⟨w.heap.size, 0, none⟩) (q := ⟨w.heap.size, 1, none⟩) (r := ⟨w.heap.size, 2, none⟩) (s := ⟨w.heap.size, 3, none⟩) hV0.size hV0.size hV0.size hV0.size (.string a.name) (.int .i64 a.typ) (.int .i64 a.opened) (.bool a.closed)
             obtain ⟨W2, hW2_⟩ : ∃ W2, (((w1.setCell ⟨w.heap.size, 0, none⟩ (.string a.name)).setCell ⟨w.heap.size, 1, none⟩ (.int .i64 a.typ)).setCell ⟨w.heap.size, 2, none⟩ (.int .i64 a.opened)).setCell ⟨w.heap.size, 3, none⟩ (.bool a.closed) = W2 := ⟨_, rfl⟩
             rw [hW2_] at hX hB2 ⊢
             clear hW2_)
          | (have hX := World.alloc_heap_new w1 (.cells #[.string a.name, .int .i64 a.typ, .int .i64 a.opened, .bool a.closed] 65)
             have hB2 := k3.alloc k3.size (.cells #[.string a.name, .int .i64 a.typ, .int .i64 a.opened, .bool a.closed] 65)
             obtain ⟨W2, hW2_⟩ : ∃ W2, w1.alloc (.cells #[.string a.name, .int .i64 a.typ, .int .i64 a.opened, .bool a.closed] 65) = W2 := ⟨_, rfl⟩
             rw [hW2_] at hX hB2 ⊢
             clear hW2_)
        all_goals
          have hac := hacc _ hB2
          obtain ⟨j0, j1, j2, j3⟩ := HK.out W2 hB2
          go_wp2_with (first
            | (go_at_call 34; refine hac.mono ?_; rintro en w2 ⟨v, rfl, hr, hb2⟩; clear hac; obtain ⟨A2, c2, rfl⟩ := acc_slice hr; clear hr; have k5 := hB2.trans (hb2.mono hB2.size); obtain ⟨m0, m1, m2, m3⟩ := HK.out w2 k5)
            | (go_at_call 86; refine (hpar _).mono ?_; rintro en w3 ⟨rfl, hb3⟩; have k6 := k5.trans (hb3.mono k5.size); obtain ⟨n0, n1, n2, n3⟩ := HK.out w3 k6))
          go_ret
          exact ⟨rfl, k6⟩
      | some u =>
        rw [hp] at hpar
        simp only [Option.getD_some, Option.isSome_some] at hpar
        clear hp
        simp only
        have hmay := fun W hb n => HM.out W hb u n
        generalize mayE L u e.day = ME at *
        go_enter Tryz.func56, Tryz.ntmps56
        go_wp2
        go_region_held3 (fun w' => w'.cell? ⟨bb, 1, none⟩ = some (.pointer (some ⟨cb, 0, none⟩)) ∧ w'.cell? ⟨eb, 1, none⟩ = some (.int .i64 e.day) ∧ w'.cell? ⟨eb, 3, none⟩ = some (.string e.account) ∧ Below w.heap.size w w')
          (first | with_reducible exact ⟨g0, g1, g2, g3⟩ | with_reducible exact HK.out _ (below_ad hV0 hV0.size _) | with_reducible exact HK.out _ (by with_reducible assumption) | with_reducible exact HK.out _ (Below.alloc (by with_reducible assumption) (Below.size (by with_reducible assumption)) _) | with_reducible exact HK.out _ (set4' (by with_reducible assumption) hV0.size _ _ _ _))
          (first
            | (go_at_call 46; refine (hfind _ (by with_reducible exact g3)).mono ?_; rintro en w1 ⟨rfl, hb1⟩; have g3' : Below w.heap.size w w1 := (by with_reducible exact grow_plain (V := w) hV0 hV0.size hb1); obtain ⟨k0, k1, k2, k3⟩ := HK.out w1 g3'; clear g3' hfind)
            | (go_at_call 46; refine (hfind _ (by with_reducible exact below_ad hV0 hV0.size _)).mono ?_; rintro en w1 ⟨rfl, hb1⟩; have gp : Below w.heap.size w w1 ∧ w1.heap[w.heap.size]? = some (.cells noBox 65 (0, 0)) := (by with_reducible exact grow_past (V := w) hV0 hV0.size hb1); obtain ⟨g3', hbx⟩ := gp; obtain ⟨k0, k1, k2, k3⟩ := HK.out w1 g3'; obtain ⟨hbk, hbk1, hbk2, hbk3, hbf, hbf1, hbf2, hbf3⟩ := box_facts hbx; clear g3' hfind))
        all_goals first
          | (have hX := box_set hbx a
             have hB2 := set4 k3 (p := ⟨w.heap.size, 0, none⟩) (q := ⟨w.heap.size, 1, none⟩) (r := ⟨w.heap.size, 2, none⟩) (s := ⟨w.heap.size, 3, none⟩) hV0.size hV0.size hV0.size hV0.size (.string a.name) (.int .i64 a.typ) (.int .i64 a.opened) (.bool a.closed)
             obtain ⟨W2, hW2_⟩ : ∃ W2, (((w1.setCell ⟨w.heap.size, 0, none⟩ (.string a.name)).setCell ⟨w.heap.size, 1, none⟩ (.int .i64 a.typ)).setCell ⟨w.heap.size, 2, none⟩ (.int .i64 a.opened)).setCell ⟨w.heap.size, 3, none⟩ (.bool a.closed) = W2 := ⟨_, rfl⟩
             rw [hW2_] at hX hB2 ⊢
             clear hW2_)
          | (have hX := World.alloc_heap_new w1 (.cells #[.string a.name, .int .i64 a.typ, .int .i64 a.opened, .bool a.closed] 65)
             have hB2 := k3.alloc k3.size (.cells #[.string a.name, .int .i64 a.typ, .int .i64 a.opened, .bool a.closed] 65)
             obtain ⟨W2, hW2_⟩ : ∃ W2, w1.alloc (.cells #[.string a.name, .int .i64 a.typ, .int .i64 a.opened, .bool a.closed] 65) = W2 := ⟨_, rfl⟩
             rw [hW2_] at hX hB2 ⊢
             clear hW2_)
        all_goals
          have hac := hacc _ hB2
          obtain ⟨j0, j1, j2, j3⟩ := HK.out W2 hB2
          go_wp2_with (first
            | (go_at_call 34; refine hac.mono ?_; rintro en w2 ⟨v, rfl, hr, hb2⟩; clear hac; obtain ⟨A2, c2, rfl⟩ := acc_slice hr; clear hr; have k5 := hB2.trans (hb2.mono hB2.size); obtain ⟨m0, m1, m2, m3⟩ := HK.out w2 k5)
            | (go_at_call 86; refine (hpar _).mono ?_; rintro en w3 ⟨rfl, hb3⟩; have k6 := k5.trans (hb3.mono k5.size); obtain ⟨n0, n1, n2, n3⟩ := HK.out w3 k6))
          go_quiet ((go_at_call 87; refine Calls.quiet_of_same (hmay _ k6 _)))
          go_wp2
          go_ret
          exact ⟨rfl, below_drewN k6 _⟩
end
end Go.Proofs.YtgocoofcelggcaaGreatDoor
namespace Go.Proofs.YtgocoofcelggcaaGreatDoor
open Go.RowKit
set_option linter.unusedVariables false
set_option linter.unusedSimpArgs false
section
variable {w : World} {F : Nat → Prop} {bb eb : Nat} {S : BookS} {e : EventV} {lv : Value}

/-! ### mayTrade -/
structure TradeInv (W1 : World) (L : List Acct) (day : Int) (l : List ByteArray) (i : Value) (wr : World) (k : Nat) : Prop where
  le : k ≤ l.length
  at_ : i = .int .i64 (k : Int)
  all : ∀ j (hj : j < l.length), j < k → mayE L l[j] day = 0
  bel : Below W1.heap.size W1 wr

set_option maxRecDepth 100000 in
set_option maxHeartbeats 8000000 in
theorem mayTrade_any (h : BookAt w F bb S) (hE : EvAt w eb e lv) (other : Int) :
    Calls Tryz.prog 98 #[ptrV bb, ptrV eb, .int .i64 other] w fun en w' => en = .returned (.int .i64 (mayTradeE S e other)) ∧ Below w.heap.size w w' := by
  obtain ⟨ρ, p, h, _⟩ := h
  have hbl := heap_lt h.head
  have hel := heap_lt hE.blk
  obtain ⟨Fc, hch, _⟩ := h.chart
  have hkeep : ∀ W, Below w.heap.size w W → W.cell? ⟨bb, 1, none⟩ = some (.pointer (some ⟨p.cb, 0, none⟩)) ∧ W.cell? ⟨eb, 1, none⟩ = some (.int .i64 e.day) ∧ W.cell? ⟨eb, 3, none⟩ = some (.string e.account) ∧ W.cell? ⟨eb, 4, none⟩ = some (.string e.other) ∧ Below w.heap.size w W := fun W hb => by
    have hE' := hE.below hb
    exact ⟨(hb.cell (p := ⟨bb, 1, none⟩) hbl).trans h.c1, hE'.e1, hE'.e3, hE'.e4, hb⟩
  have hfind := fun name W (hb : Below w.heap.size w W) => Find_any (hch.below hb) name
  have hmay := fun W (hb : Below w.heap.size w W) u n => may_quiet (hch.below hb) u e.day n
  have HK := Lib.hid hkeep
  obtain ⟨g0, g1, g2, g3, g4⟩ := hkeep w.drew (Below.refl _ _).drew
  have hV0 : Below w.heap.size w w := Below.refl _ _
  obtain ⟨RV, hRV⟩ : ∃ RV, RV = mayTradeE S e other := ⟨_, rfl⟩
  rw [← hRV]
  unfold mayTradeE typOf at hRV
  unfold ptrV
  generalize S.chart = L at *
  generalize p.cb = cb at *
  unfold accV at hfind
  have HRV := Lib.hid hRV
  have HM := Lib.hid hmay
  have HF := Lib.hid hfind
  clear hkeep h hE hch hmay hfind hRV
  go_enter Tryz.func98, Tryz.ntmps98
  go_wp2
  go_region_held3 (fun w' => w'.cell? ⟨bb, 1, none⟩ = some (.pointer (some ⟨cb, 0, none⟩)) ∧ w'.cell? ⟨eb, 1, none⟩ = some (.int .i64 e.day) ∧ w'.cell? ⟨eb, 3, none⟩ = some (.string e.account) ∧ w'.cell? ⟨eb, 4, none⟩ = some (.string e.other) ∧ Below w.heap.size w w')
    (first | with_reducible exact ⟨g0, g1, g2, g3, g4⟩ | with_reducible exact HK.out _ (below_ad hV0 hV0.size _))
    (fail)
  have hB1 : Below w.heap.size w (w.alloc (.cells #[.string e.account, .string e.other] 9)).drew := below_ad hV0 hV0.size _
  have hs0 : (w.alloc (.cells #[.string e.account, .string e.other] 9)).drew.cell? ⟨w.heap.size, 0, none⟩ = some (.string e.account) := cell_of_blk (World.alloc_heap_new w _)
  have hs1 : (w.alloc (.cells #[.string e.account, .string e.other] 9)).drew.cell? ⟨w.heap.size, 1, none⟩ = some (.string e.other) := cell_of_blk (World.alloc_heap_new w _)
  have hsl : w.heap.size < (w.alloc (.cells #[.string e.account, .string e.other] 9)).drew.heap.size := by
    show w.heap.size < (w.alloc _).heap.size
    simp
  generalize (w.alloc (.cells #[.string e.account, .string e.other] 9)).drew = W1 at *
  have HB1 := Lib.hid hB1
  have names : ∀ wr, Below W1.heap.size W1 wr → ∀ k (hk : k < [e.account, e.other].length), wr.cell? ⟨w.heap.size, k, none⟩ = some (.string [e.account, e.other][k]) := fun wr hb k hk => by
    have hk2 : k = 0 ∨ k = 1 := by simp at hk; omega
    rcases hk2 with rfl | rfl
    · exact (hb.cell (p := ⟨w.heap.size, 0, none⟩) hsl).trans hs0
    · exact (hb.cell (p := ⟨w.heap.size, 1, none⟩) hsl).trans hs1
  have NM := Lib.hid names
  obtain ⟨l, hl⟩ : ∃ l, l = [e.account, e.other] := ⟨_, rfl⟩
  rw [← hl] at NM
  have hll : l.length = 2 := by rw [hl]; rfl
  have HL := Lib.hid hl
  clear names hs0 hs1 hl g0 g1 g2 g3 g4
  go_wp2
  go_loopw [24] (fun i wr => ∃ k, TradeInv W1 L e.day l i wr k) (fun i _ => 2 - (intOf i).toNat)
  case atStart => exact ⟨0, Nat.zero_le _, rfl, fun _ _ h => absurd h (by omega), Below.refl _ _⟩
  case round =>
    obtain ⟨k, hk, rfl, hall, hbel⟩ := hrel
    have HA := Lib.hid hall
    clear hall
    have hbw := HB1.out.trans (hbel.mono HB1.out.size)
    have hV1 := hbw
    by_cases hlt : k < l.length
    · have hc := NM.out wr hbel k hlt
      have hlt2 : k < 2 := by omega
      obtain ⟨x, hx⟩ : ∃ x, x = l[k] := ⟨_, rfl⟩
      rw [← hx] at hc
      have HX := Lib.hid hx
      clear hx
      obtain ⟨j0, j1, j2, j3, j4⟩ := HK.out wr hbw
      have hmay := fun n => HM.out wr hbw x n
      obtain ⟨E, hE⟩ : ∃ E, E = mayE L x e.day := ⟨_, rfl⟩
      rw [← hE] at hmay
      have HE := Lib.hid hE
      clear hE
      by_cases h0 : E = 0
      · subst h0
        go_wp2
        go_quiet ((go_at_call 87; refine Calls.quiet_of_same (hmay _)))
        go_wp2
        go_roundw
        case rel => exact ⟨k + 1, by omega, by go_num, fun j hj hjk => (by
          by_cases e : j = k
          · subst e; rw [← HX.out, ← HE.out]
          · exact HA.out j hj (by omega)), below_drewN hbel _⟩
        case measure => simp [intOf]; omega
      · have he : (E != 0) = true := by rw [bne_iff_ne]; exact h0
        have HR := Lib.hid (show RV = E by
          have h1 := HRV.out
          have h2 := HL.out
          subst h2
          have h3 := HA.out
          have hk2 : k = 0 ∨ k = 1 := by omega
          rcases hk2 with rfl | rfl
          · have h4 : x = e.account := HX.out
            rw [h1, if_neg (by rw [← h4, ← HE.out]; exact h0), HE.out, h4]
          · have h4 : x = e.other := HX.out
            have h5 : mayE L e.account e.day = 0 := h3 0 (by simp) (by omega)
            rw [h1, if_pos h5, if_neg (by rw [← h4, ← HE.out]; exact h0), HE.out, h4])
        clear h0
        go_wp2
        go_quiet ((go_at_call 87; refine Calls.quiet_of_same (hmay _)))
        go_wp2
        go_ret
        exact ⟨by rw [HR.out]; rfl, below_drewN hbw _⟩
    · have hk2 : k = 2 := by omega
      subst hk2
      have HR := Lib.hid (show RV = if ((findA L e.account).getD noA).typ = 1 ∧ ((findA L e.other).getD noA).typ = other then 0 else 64 by
        have h1 := HRV.out
        have h2 := HL.out
        subst h2
        have h5 : mayE L e.account e.day = 0 := HA.out 0 (by simp) (by omega)
        have h6 : mayE L e.other e.day = 0 := HA.out 1 (by simp) (by omega)
        rw [h1, if_pos h5, if_pos h6])
      have hf1 := fun W hb => HF.out e.account W hb
      have hf2 := fun W hb => HF.out e.other W hb
      obtain ⟨a, ha⟩ : ∃ a, a = (findA L e.account).getD noA := ⟨_, rfl⟩
      obtain ⟨b, hb⟩ : ∃ b, b = (findA L e.other).getD noA := ⟨_, rfl⟩
      rw [← ha] at hf1 HR
      rw [← hb] at hf2 HR
      generalize (findA L e.account).isSome = is1 at *
      generalize (findA L e.other).isSome = is2 at *
      clear ha hb HA HL HRV NM HM HF
      obtain ⟨g0, g1, g2, g3, g4⟩ := HK.out wr.drew hbw.drew
      go_wp2
      go_region_held3 (fun w' => w'.cell? ⟨bb, 1, none⟩ = some (.pointer (some ⟨cb, 0, none⟩)) ∧ w'.cell? ⟨eb, 1, none⟩ = some (.int .i64 e.day) ∧ w'.cell? ⟨eb, 3, none⟩ = some (.string e.account) ∧ w'.cell? ⟨eb, 4, none⟩ = some (.string e.other) ∧ Below w.heap.size w w')
        (first | with_reducible exact ⟨g0, g1, g2, g3, g4⟩ | with_reducible exact HK.out _ (below_ad hV1 hV1.size _) | with_reducible exact HK.out _ (by with_reducible assumption) | with_reducible exact HK.out _ (Below.alloc (by with_reducible assumption) (Below.size (by with_reducible assumption)) _) | with_reducible exact HK.out _ (set4' (by with_reducible assumption) hV1.size _ _ _ _))
        (first
          | (go_at_call 46; refine (hf1 _ (by with_reducible exact g4)).mono ?_; rintro en w1 ⟨rfl, hb1⟩; have g3' : Below w.heap.size w w1 := (by with_reducible exact grow_plain (V := wr) hV1 hV1.size hb1); obtain ⟨k0, k1, k2, k3, k4⟩ := HK.out w1 g3'; clear g3' hf1)
          | (go_at_call 46; refine (hf1 _ (by with_reducible exact below_ad hV1 hV1.size _)).mono ?_; rintro en w1 ⟨rfl, hb1⟩; have gp : Below w.heap.size w w1 ∧ w1.heap[wr.heap.size]? = some (.cells noBox 65 (0, 0)) := (by with_reducible exact grow_past (V := wr) hV1 hV1.size hb1); obtain ⟨g3', hbx⟩ := gp; obtain ⟨k0, k1, k2, k3, k4⟩ := HK.out w1 g3'; obtain ⟨hbk, hbk1, hbk2, hbk3, hbf, hbf1, hbf2, hbf3⟩ := box_facts hbx; clear g3' hf1))
      all_goals first
        | (have hX := box_set hbx a
           have hB2 := set4 k4 (p := ⟨wr.heap.size, 0, none⟩) (q := ⟨wr.heap.size, 1, none⟩) (r := ⟨wr.heap.size, 2, none⟩) (s := ⟨wr.heap.size, 3, none⟩) hV1.size hV1.size hV1.size hV1.size (.string a.name) (.int .i64 a.typ) (.int .i64 a.opened) (.bool a.closed)
           obtain ⟨W2, hW2_⟩ : ∃ W2, (((w1.setCell ⟨wr.heap.size, 0, none⟩ (.string a.name)).setCell ⟨wr.heap.size, 1, none⟩ (.int .i64 a.typ)).setCell ⟨wr.heap.size, 2, none⟩ (.int .i64 a.opened)).setCell ⟨wr.heap.size, 3, none⟩ (.bool a.closed) = W2 := ⟨_, rfl⟩
           rw [hW2_] at hX hB2 ⊢
           clear hW2_
           obtain ⟨xb, hxb_⟩ : ∃ xb, wr.heap.size = xb := ⟨_, rfl⟩
           rw [hxb_] at hX
           simp only [hxb_]
           clear hxb_)
        | (have hX := World.alloc_heap_new w1 (.cells #[.string a.name, .int .i64 a.typ, .int .i64 a.opened, .bool a.closed] 65)
           have hB2 := k4.alloc k4.size (.cells #[.string a.name, .int .i64 a.typ, .int .i64 a.opened, .bool a.closed] 65)
           obtain ⟨W2, hW2_⟩ : ∃ W2, w1.alloc (.cells #[.string a.name, .int .i64 a.typ, .int .i64 a.opened, .bool a.closed] 65) = W2 := ⟨_, rfl⟩
           rw [hW2_] at hX hB2 ⊢
           clear hW2_
           obtain ⟨xb, hxb_⟩ : ∃ xb, w1.heap.size = xb := ⟨_, rfl⟩
           rw [hxb_] at hX
           simp only [hxb_]
           clear hxb_)
      all_goals
        have hx1 : W2.cell? ⟨xb, 1, none⟩ = some (.int .i64 a.typ) := (box_cells hX).2.1
        have hxl := heap_lt hX
        have hk2 : ∀ W, Below W2.heap.size W2 W → W.cell? ⟨bb, 1, none⟩ = some (.pointer (some ⟨cb, 0, none⟩)) ∧ W.cell? ⟨eb, 4, none⟩ = some (.string e.other) ∧ W.cell? ⟨xb, 1, none⟩ = some (.int .i64 a.typ) ∧ Below W2.heap.size W2 W := fun W hb => by
          obtain ⟨r0, _, _, r3, _⟩ := HK.out W (hB2.trans (hb.mono hB2.size))
          exact ⟨r0, r3, (hb.cell (p := ⟨xb, 1, none⟩) hxl).trans hx1, hb⟩
        have HK2 := Lib.hid hk2
        have hV2 : Below W2.heap.size W2 W2 := Below.refl _ _
        obtain ⟨q0, q1, q2, q3⟩ := hk2 W2.drew (Below.refl _ _).drew
        have hf2 := fun W (hb : Below W2.heap.size W2 W) => hf2 W (hB2.trans (hb.mono hB2.size))
        clear hk2 hx1 hX
        go_wp2
        go_region_held3 (fun w' => w'.cell? ⟨bb, 1, none⟩ = some (.pointer (some ⟨cb, 0, none⟩)) ∧ w'.cell? ⟨eb, 4, none⟩ = some (.string e.other) ∧ w'.cell? ⟨xb, 1, none⟩ = some (.int .i64 a.typ) ∧ Below W2.heap.size W2 w')
          (first | with_reducible exact ⟨q0, q1, q2, q3⟩ | with_reducible exact HK2.out _ (below_ad hV2 hV2.size _) | with_reducible exact HK2.out _ (by with_reducible assumption) | with_reducible exact HK2.out _ (Below.alloc (by with_reducible assumption) (Below.size (by with_reducible assumption)) _) | with_reducible exact HK2.out _ (set4' (by with_reducible assumption) hV2.size _ _ _ _))
          (first
            | (go_at_call 46; refine (hf2 _ (by with_reducible exact q3)).mono ?_; rintro en w2 ⟨rfl, hb1⟩; have g3' : Below W2.heap.size W2 w2 := (by with_reducible exact grow_plain (V := W2) hV2 hV2.size hb1); obtain ⟨m0, m1, m2, m3⟩ := HK2.out w2 g3'; clear g3' hf2)
            | (go_at_call 46; refine (hf2 _ (by with_reducible exact below_ad hV2 hV2.size _)).mono ?_; rintro en w2 ⟨rfl, hb1⟩; have gp : Below W2.heap.size W2 w2 ∧ w2.heap[W2.heap.size]? = some (.cells noBox 65 (0, 0)) := (by with_reducible exact grow_past (V := W2) hV2 hV2.size hb1); obtain ⟨g3', hbx⟩ := gp; obtain ⟨m0, m1, m2, m3⟩ := HK2.out w2 g3'; obtain ⟨hbk, hbk1, hbk2, hbk3, hbf, hbf1, hbf2, hbf3⟩ := box_facts hbx; clear g3' hf2))
        all_goals first
          | (have hY := box_set hbx b
             have hB3 := set4 m3 (p := ⟨W2.heap.size, 0, none⟩) (q := ⟨W2.heap.size, 1, none⟩) (r := ⟨W2.heap.size, 2, none⟩) (s := ⟨W2.heap.size, 3, none⟩) hV2.size hV2.size hV2.size hV2.size (.string b.name) (.int .i64 b.typ) (.int .i64 b.opened) (.bool b.closed)
             obtain ⟨W3, hW2_⟩ : ∃ W3, (((w2.setCell ⟨W2.heap.size, 0, none⟩ (.string b.name)).setCell ⟨W2.heap.size, 1, none⟩ (.int .i64 b.typ)).setCell ⟨W2.heap.size, 2, none⟩ (.int .i64 b.opened)).setCell ⟨W2.heap.size, 3, none⟩ (.bool b.closed) = W3 := ⟨_, rfl⟩
             rw [hW2_] at hY hB3 ⊢
             clear hW2_
             obtain ⟨yb, hxb_⟩ : ∃ yb, W2.heap.size = yb := ⟨_, rfl⟩
             rw [hxb_] at hY
             simp only [hxb_]
             clear hxb_)
          | (have hY := World.alloc_heap_new w2 (.cells #[.string b.name, .int .i64 b.typ, .int .i64 b.opened, .bool b.closed] 65)
             have hB3 := m3.alloc m3.size (.cells #[.string b.name, .int .i64 b.typ, .int .i64 b.opened, .bool b.closed] 65)
             obtain ⟨W3, hW2_⟩ : ∃ W3, w2.alloc (.cells #[.string b.name, .int .i64 b.typ, .int .i64 b.opened, .bool b.closed] 65) = W3 := ⟨_, rfl⟩
             rw [hW2_] at hY hB3 ⊢
             clear hW2_
             obtain ⟨yb, hxb_⟩ : ∃ yb, w2.heap.size = yb := ⟨_, rfl⟩
             rw [hxb_] at hY
             simp only [hxb_]
             clear hxb_)
        all_goals
          have hy1 : W3.cell? ⟨yb, 1, none⟩ = some (.int .i64 b.typ) := (box_cells hY).2.1
          obtain ⟨r0, r1, r2, r3⟩ := HK2.out W3 hB3
          have hfin := hB2.trans (hB3.mono hB2.size)
          by_cases t1 : a.typ = 1
          · by_cases t2 : b.typ = other
            · have HR2 := Lib.hid (show RV = 0 by rw [HR.out, if_pos ⟨t1, t2⟩])
              have u1 : (a.typ != 1) = false := by simp [t1]
              have u2 : (b.typ != other) = false := by simp [t2]
              clear t1 t2
              go_wp2
              go_ret
              exact ⟨by rw [HR2.out]; rfl, hfin⟩
            · have HR2 := Lib.hid (show RV = 64 by rw [HR.out, if_neg (fun h => t2 h.2)])
              have u1 : (a.typ != 1) = false := by simp [t1]
              have u2 : (b.typ != other) = true := by rw [bne_iff_ne]; exact t2
              clear t1 t2
              go_wp2
              go_ret
              exact ⟨by rw [HR2.out]; rfl, hfin⟩
          · have HR2 := Lib.hid (show RV = 64 by rw [HR.out, if_neg (fun h => t1 h.1)])
            have u1 : (a.typ != 1) = true := by rw [bne_iff_ne]; exact t1
            clear t1
            go_wp2
            go_ret
            exact ⟨by rw [HR2.out]; rfl, hfin⟩
end
end Go.Proofs.YtgocoofcelggcaaGreatDoor
