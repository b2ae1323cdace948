/- Accounts of a chart: all of them, by rising name. -/
import Derived.Test.YthbiepgpflpfoaaDoorSort
import Derived.Test.YthbiepgpflpfoaaDoorClose
import Derived.OwnWalkIn
namespace Go.Proofs.YthbiepgpflpfoaaDoor
open Go.RowKit Go.Shelf
set_option linter.unusedVariables false
set_option linter.unusedSimpArgs false

attribute [local go_sem] Oper.semAt_some

/-- A slice of accounts in a block of its own, or no block at all. -/
inductive AccRow (B : Nat) (w : World) (L : List Acct) : Value → Prop
  | nil (h : L = []) : AccRow B w L (.slice none 0 0)
  | row (b c : Nat) (hb : B ≤ b) (h : RowA w b L) : AccRow B w L (.slice (some ⟨b, 0, none⟩) L.length c)

theorem AccRow.below {B : Nat} {w w' : World} {L : List Acct} {v : Value} (h : AccRow B w L v) (hb : Below w.heap.size w w') : AccRow B w' L v := by
  cases h with
  | nil h => exact .nil h
  | row b c h1 h2 => exact .row b c h1 (h2.below hb)

def cellsA (l : List Acct) : List Value := l.flatMap encA
theorem cellsA_len (l : List Acct) : (cellsA l).length = l.length * 4 := by
  unfold cellsA
  induction l with
  | nil => rfl
  | cons a r ih => rw [List.flatMap_cons, List.length_append, ih]; show 4 + _ = _; simp; omega
theorem cellsA_get : ∀ (l : List Acct) (j : Nat) (hj : j < l.length) (c : Nat), c < 4 → (cellsA l)[j * 4 + c]? = (encA l[j])[c]?
  | [], j, hj, _, _ => by simp at hj
  | a :: r, 0, _, c, hc => by
    show (encA a ++ cellsA r)[0 * 4 + c]? = _
    rw [List.getElem?_append_left (by show _ < 4; omega)]
    simp
  | a :: r, j + 1, hj, c, hc => by
    show (encA a ++ cellsA r)[(j + 1) * 4 + c]? = _
    rw [List.getElem?_append_right (by show 4 ≤ _; omega)]
    have e : (j + 1) * 4 + c - (encA a).length = j * 4 + c := by show _ - 4 = _; omega
    rw [e, cellsA_get r j (by simpa using hj) c hc]
    rfl

theorem row_of_own {w : World} {B : Nat} {v : Value} {l : List Acct} {t : TypeId} (h : w.ownsRow B t 4 v l.length (cellsA l)) : (l = [] ∧ v = .slice none 0 0) ∨ ∃ g c, v = .slice (some ⟨g, 0, none⟩) l.length c ∧ B ≤ g ∧ RowA w g l ∧ ∀ i, w.frozen? ⟨g, i, none⟩ = false := by
  rcases h.2 with ⟨e, h0⟩ | ⟨g, cap, cur, e, hb, hg, r⟩
  · exact .inl ⟨List.eq_nil_of_length_eq_zero h0, e⟩
  · refine .inr ⟨g, cap, e, hb, ?_, fun i => ?_⟩
    · have hc : ∀ j (hj : j < l.length) c u, c < 4 → (encA l[j])[c]? = some u → w.cell? ⟨g, j * 4 + c, none⟩ = some u := fun j hj c u hc4 hu => by
        have := h.cells (g := g) (by rw [e]; rfl) (j * 4 + c) u (by rw [cellsA_get l j hj c hc4]; exact hu)
        rw [Addr.add_lit] at this
        simpa using this
      exact ⟨heap_lt hg, fun j hj => hc j hj 0 _ (by omega) rfl, fun j hj => hc j hj 1 _ (by omega) rfl, fun j hj => hc j hj 2 _ (by omega) rfl, fun j hj => hc j hj 3 _ (by omega) rfl⟩
    · simp [World.frozen?, hg]

theorem info_acc : (Tryd.prog.info? 35).map (fun i => (i.zero, i.size, i.bytes)) = some (some (.agg #[.string ByteArray.empty, .int .i64 0, .int .i64 0, .bool false]), 4, 40) := by kernel_rfl

theorem calls_in {n k : Nat} {args : Array Value} {w : World} {R : Ending → World → Prop} (h : Calls Tryd.prog k args w R) : CallsIn Fence.wide n Tryd.prog k args w R := (callsIn_wide (n := n)).2 h

theorem enc_new (W : World) (x : Acct) (t : TypeId) : ∀ j u, (encA x)[j]? = some u → (W.alloc (.cells #[.string x.name, .int .i64 x.typ, .int .i64 x.opened, .bool x.closed] t)).cell? ((⟨W.heap.size, 0, none⟩ : Addr).add j) = some u := by
  intro j u hu
  rw [Addr.add_lit, cell_of_blk (World.alloc_heap_new W _)]
  unfold encA at hu
  simpa using hu

/-- What a round that has appended keeps. -/
theorem kp_appended {W w1 : World} {n₀ B Bl : Nat} {T t e : TypeId} {size k : Nat} {v v' : Value} {xs : List Value} {tmp : Obj} (hv : Boxed W Bl t v) (hrow : W.ownsRow n₀ e size v k xs) (hgrow : (W.alloc tmp).grownBy w1 v.ownBlock)
    (hT : T ≠ t) (hTe : T ≠ e) (hko : KeepsOthers W (w1.setCell ⟨Bl, 0, none⟩ v')) (hbel : Below n₀ W (w1.setCell ⟨Bl, 0, none⟩ v')) : Kp T n₀ B W (w1.setCell ⟨Bl, 0, none⟩ v') := by
  refine ⟨hbel, fun i u hi => ?_, hko.from B⟩
  have h1 : Boxed w1 i T u := (hi.alloc tmp).kept hgrow (hi.not_row hTe hrow)
  have hne : i ≠ Bl := fun e => by
    subst e
    have := (show W.heap[i]? = _ from hi).symm.trans (show W.heap[i]? = _ from hv)
    injection this with this
    injection this with _ h2
    exact hT h2
  exact h1.other hne v'

set_option maxRecDepth 100000 in
set_option maxHeartbeats 4000000 in
theorem Accounts_walk (n : Nat) (cb : Nat) (L ys : List Acct) (hp : ys.Perm L) (hL : Rising L) (hle : L.length ≤ 100) (Ak : Option Addr) (nk ck : Nat) (w : World) (hlt : cb < w.heap.size) (hc1 : w.cell? ⟨cb, 1, none⟩ = some (.slice Ak nk ck))
    (hit : ∀ (W : World) (Bt : Nat), Below w.heap.size w W → Bt < W.heap.size → W.cell? ⟨Bt, 0, none⟩ = some (.slice Ak nk ck) → It Fence.wide Tryd.prog 32 #[.pointer (some ⟨Bt, 0, none⟩)] 72 accV w.heap.size ys W) :
    CallsIn Fence.wide n Tryd.prog 8 #[.pointer (some ⟨cb, 0, none⟩)] w fun e w' => ∃ v, e = .returned v ∧ AccRow w.heap.size w' L v ∧ Below w.heap.size w w' := by
  obtain ⟨i0, hi, hz0, hz1, hz2⟩ := info_parts info_acc
  have HIT := Lib.hid hit
  clear hit
  have HP := Lib.hid hp
  have HL := Lib.hid hL
  clear hp hL
  have hyl : ys.length ≤ 100 := by rw [HP.out.length_eq]; exact hle
  have hd : Fence.wide.depth = none := rfl
  have hF : ∀ k, Fence.wide.fn k := fun _ => trivial
  have hro : Fence.wide.round = none := rfl
  have hin : ∀ (m k : Nat) (args : Array Value) (W : World) (R : Ending → World → Prop), Calls Tryd.prog k args W R → CallsIn Fence.wide m Tryd.prog k args W R := fun m k args W R h => calls_in h
  generalize Fence.wide = F at *
  have hdd : ∀ k : Nat, (F.depth.isSome = true → 1 ≤ k) := fun k h => by rw [hd] at h; cases h
  refine callsIn_of_wp_marks Tryd.func8 rfl (hF _) ?_ hro
  simp only [Tryd.ntmps8, List.size_toArray, List.length_cons, List.length_nil, Nat.reduceAdd, Nat.reduceSub, Array.replicate_succ, Array.replicate_zero, List.push_toArray, List.append_toArray, List.nil_append, List.cons_append]
  gi_wp2_with ((try refine ⟨hdd _, ?_⟩); gi_at_call 22; refine (below_in F _ (hF _) hro _ _ _ _).mono ?_; rintro e w' ⟨rfl, rfl⟩)
  have bL : Boxed ((w.alloc (.cells #[.slice none 0 0] 29)).alloc (.cells #[.slice Ak nk ck] 57)) w.heap.size 29 (.slice none 0 0) := (Boxed.new w 29 (.slice none 0 0)).alloc _
  have bT := Boxed.new (w.alloc (.cells #[.slice none 0 0] 29)) 57 (.slice Ak nk ck)
  rw [World.size_alloc] at bT
  have hB0 : Below w.heap.size w ((w.alloc (.cells #[.slice none 0 0] 29)).alloc (.cells #[.slice Ak nk ck] 57)) := ((Below.refl _ w).alloc (Nat.le_refl _) _).alloc (by simp) _
  have hsz : ((w.alloc (.cells #[.slice none 0 0] 29)).alloc (.cells #[.slice Ak nk ck] 57)).heap.size = w.heap.size + 2 := by simp
  obtain ⟨W0, hW0⟩ : ∃ W0, (w.alloc (.cells #[.slice none 0 0] 29)).alloc (.cells #[.slice Ak nk ck] 57) = W0 := ⟨_, rfl⟩
  rw [hW0] at bL bT hB0 hsz ⊢
  clear hW0
  refine wpIn_range_it (T := 72) (enc := accV) (n₀ := w.heap.size) (ys := ys) hd hro (gf := 32) (lb := #[.pointer (some ⟨w.heap.size + 1, 0, none⟩)]) rfl (hF _) (enters_of Tryd.func32 (by kernel_rfl) rfl)
    (HIT.out W0 (w.heap.size + 1) hB0 (by omega) bT.cell) (by omega)
    (fun pre W => (∃ v, Boxed W w.heap.size 29 v ∧ W.ownsRow w.heap.size 35 4 v pre.length (cellsA pre) ∧ True) ∧ Below w.heap.size w W)
    (fun pre W => False)
    (OwnFrom.and (Own.from (holdsRow_own _ _ _ _ _ (fun pre : List Acct => pre.length) cellsA (fun _ _ => True)) _) (ownFrom_below (Nat.le_refl _) (by omega)))
    (ownFrom_pure _ _)
    ⟨⟨_, bL, World.ownsRow_nil _ _ _ _, trivial⟩, hB0⟩
    (fun x a' W => ∃ Bx, W.heap[Bx]? = some (.cells #[.string x.name, .int .i64 x.typ, .int .i64 x.opened, .bool x.closed] 35 (0, 0)) ∧ a' = { tmps := #[.pointer (some ⟨cb, 0, none⟩), undef, .slice none 0 0, .pointer (some ⟨w.heap.size, 0, none⟩), .pointer (some ⟨Bx, 0, none⟩), .pointer (some ⟨cb, 0, none⟩), .pointer (some ⟨cb, 0, none⟩), .pointer (some ⟨cb, 1, none⟩), .slice Ak nk ck, .func (.func 32) #[] #[.pointer (some ⟨w.heap.size + 1, 0, none⟩)], accV x, undef, undef, undef, undef, undef, undef, undef], defers := [] })
    (fun x a' _ X Y row h hg hr => by
      obtain ⟨Bx, h1, h2⟩ := h
      refine ⟨Bx, (hg.block Bx (heap_lt h1) (fun e => ?_)).trans h1, h2⟩
      obtain ⟨_, o, ho, hc⟩ := hr Bx e.symm
      rw [h1] at ho; cases ho; cases hc)
    ?assign ?body ?done ?stop
  case assign =>
    rintro l2 m q x W' K hs' ⟨⟨v, hbv, hown, _⟩, hbel⟩ hK
    unfold accV
    gi_wp2
    exact hK _ _ (Kp.alloc _ (by omega)) ⟨⟨v, hbv.alloc _, hown.alloc _, trivial⟩, hbel.alloc (by omega) _⟩ ⟨W'.heap.size, heap_alloc_new _ _, rfl⟩
  case body =>
    rintro l2 m q x a' W' hs' ⟨⟨v, hbv, hown, _⟩, hbel⟩ ⟨Bx, hBx, rfl⟩ hq
    have hql : q.length < ys.length := by obtain ⟨t, ht⟩ := hq; rw [← ht]; simp
    have hcR := hbv.cell
    have hfR := hbv.frozen
    have x0 : W'.cell? ⟨Bx, 0, none⟩ = some (.string x.name) := by rw [cell_of_blk hBx]; rfl
    have x1 : W'.cell? ⟨Bx, 1, none⟩ = some (.int .i64 x.typ) := by rw [cell_of_blk hBx]; rfl
    have x2 : W'.cell? ⟨Bx, 2, none⟩ = some (.int .i64 x.opened) := by rw [cell_of_blk hBx]; rfl
    have x3 : W'.cell? ⟨Bx, 3, none⟩ = some (.bool x.closed) := by rw [cell_of_blk hBx]; rfl
    have HO := Lib.hid hown
    have HV := Lib.hid hbv
    clear hown hbv hq
    unfold accV
    gi_wp2_with (gi_at_builtin; refine wpListIn_append_own _ rfl _ _ 29 rfl w.heap.size 35 i0 (.agg #[.string ByteArray.empty, .int .i64 0, .int .i64 0, .bool false]) 4 40 Tryd.underlying29 hi hz0 hz1 hz2 rfl (by decide) _ _ _ rfl (HO.out.alloc _) ⟨W'.heap.size, 0, none⟩ 1 1 (encA x) rfl rfl ?c1 ?c2 ?c3 ?c4 ?c5 ?_)
    case c1 => exact enc_new W' x _
    case c2 => intro u hu; unfold encA at hu; simp at hu; rcases hu with rfl | rfl | rfl | rfl <;> rfl
    case c3 => unfold maxLen; omega
    case c4 => omega
    case c5 => simp; omega
    intro v' w1 hown' hgrow _
    obtain ⟨k1, k2, k3, k4, k5⟩ := Boxed.appended HV.out (by decide) HO.out (by omega) (Nat.le_refl _) hown' hgrow
    have HK := Lib.hid (And.intro k2 (And.intro k3 (And.intro k5 (kp_appended (B := W0.heap.size) (T := 72) HV.out HO.out hgrow (by decide) (by decide) k4 k5))))
    obtain ⟨g, cap, rfl⟩ := ownsRow_succ hown'
    have c1 := k1.cell
    have f1 := k1.frozen
    clear k1 k2 k3 k4 k5 hown' hgrow
    gi_wp2
    obtain ⟨k2, k3, k5, k6⟩ := HK.out
    exact ⟨k6, ⟨_, k2, by simpa [cellsA] using k3, trivial⟩, hbel.trans k5⟩
  case done =>
    rintro D W' hD ⟨⟨v, hbv, hown, _⟩, hbel⟩ hDd
    rcases row_of_own hown with ⟨rfl, rfl⟩ | ⟨g, cap, rfl, hgb, hra, hfr⟩
    · have hcR := hbv.cell
      have HL0 := Lib.hid (show L = [] from (List.perm_nil.1 HP.out.symm))
      have hs := fun m => hin m _ _ W' _ (AnyF.slices_SortFunc_none Tryd.sortAcc none 0 (.func (.func 24) #[] #[]) W')
      change ∀ m, CallsIn F m Tryd.prog 23 _ _ _ at hs
      gi_wp2_with ((try refine ⟨hdd _, ?_⟩); gi_at_call 23; refine (hs _).mono ?_; rintro e w2 ⟨rfl, hw2⟩; have hw3 := hw2.symm; subst hw3)
      refine ⟨by simp, .inl ⟨_, _, rfl, run_takeDeferred hDd, ?_⟩⟩
      refine ⟨.slice none 0 0, by simp [results, Tryd.results8, go_sem], _, rfl, .nil HL0.out, ?_⟩
      exact hbel.trans (belowK_b (w := w) (Nat.le_refl _) W' D _ _ (by omega) hDd rfl rfl)
    · have hcR := hbv.cell
      have hs := fun m => hin m _ _ W' _ (sort_acc HP.out HL.out hle g cap W' hra hfr)
      have hDg : D ≠ g := fun e => by
        subst e
        rcases hown.2 with ⟨h0, _⟩ | ⟨g', cap', cur, e2, _, hg, _⟩
        · cases h0
        · cases e2
          rw [hg] at hDd
          cases hDd
      have hgB : g ≠ w.heap.size := fun e => by
        have := hbv.not_row (by decide) hown
        exact this (by rw [e]; rfl)
      have HBV := Lib.hid hbv
      clear hown hbv
      have hgl := hra.lt
      gi_wp2_with ((try refine ⟨hdd _, ?_⟩); gi_at_call 23; refine (hs _).mono ?_; rintro e w2 ⟨rfl, hra2, hch⟩; have hcR2 : w2.cell? ⟨w.heap.size, 0, none⟩ = some (.slice (some ⟨g, 0, none⟩) ys.length cap) := (Boxed.cell ((hch.block _ HBV.out.lt (Ne.symm hgB)).trans HBV.out)))
      have hDd2 : w2.heap[D]? = some (.deferred (some [])) := (hch.block D (heap_lt hDd) hDg).trans hDd
      refine ⟨by simp, .inl ⟨_, _, rfl, run_takeDeferred hDd2, ?_⟩⟩
      refine ⟨.slice (some ⟨g, 0, none⟩) ys.length cap, by simp [results, Tryd.results8, go_sem], _, rfl, ?_, ?_⟩
      · rw [HP.out.length_eq]
        have hk : ∀ i, (w2.putObj D (.deferred none)).cell? ⟨g, i, none⟩ = w2.cell? ⟨g, i, none⟩ := fun i => by simp [World.cell?, heap_putObj_other _ (Ne.symm hDg)]
        exact .row g cap hgb ⟨by have := hra2.lt; simpa [World.putObj] using this, fun j hj => (hk _).trans (hra2.c0 j hj), fun j hj => (hk _).trans (hra2.c1 j hj), fun j hj => (hk _).trans (hra2.c2 j hj), fun j hj => (hk _).trans (hra2.c3 j hj)⟩
      · exact (hbel.trans (hch.toBelow hbel.size fun k e => by subst e; exact hgb)).trans (belowK_b (w := w) (Nat.le_refl _) w2 D _ _ (by omega) hDd2 rfl rfl)
  case stop =>
    rintro D q W' hD hq h
    exact h.elim

theorem Accounts_any {w : World} {F : Nat → Prop} {cb : Nat} {L : List Acct} (h : ChartAt w F cb L) (hv : Valid L) :
    Calls Tryd.prog 8 #[.pointer (some ⟨cb, 0, none⟩)] w fun e w' => ∃ v, e = .returned v ∧ AccRow w.heap.size w' L v ∧ Below w.heap.size w w' := by
  obtain ⟨mb, rv, nb, kv, ps, hcr⟩ := h
  have hc1 : w.cell? ⟨cb, 1, none⟩ = some rv := by rw [cell_of_blk hcr.hC]; rfl
  obtain ⟨hfo, hroots⟩ := hcr.forest
  have hrow := hroots
  obtain ⟨Ak, ck, rfl, _⟩ := hroots.ex
  have hB : ∀ b ∈ rootsA L, 102 < b.name.size + 103 := fun b _ => by omega
  have hkl : (rootsA L).length ≤ 100 := Nat.le_trans (List.length_filter_le _ _) hv.le
  have hit : ∀ (W : World) (Bt : Nat), Below w.heap.size w W → Bt < W.heap.size → W.cell? ⟨Bt, 0, none⟩ = some (.slice Ak (rootsA L).length ck) → It Fence.wide Tryd.prog 32 #[.pointer (some ⟨Bt, 0, none⟩)] 72 accV w.heap.size (flatA L (rootsA L)) W :=
    fun W Bt hb hBt hcell => seq_it Fence.wide rfl (fun _ => trivial) rfl w.heap.size L nb kv 102 hv.le (fun a ha => hv.size ha) hv.kid 103 (rootsA L) (fun b hb => (List.mem_filter.1 hb).1) hB hkl Bt _ W hb.size hBt hcell (hrow.below hb) (hfo.below hb)
  exact (callsIn_wide (n := 3)).1 (Accounts_walk 3 cb L _ (flat_perm hv) hv.rising hv.le Ak _ ck w (heap_lt hcr.hC) hc1 hit)
end Go.Proofs.YthbiepgpflpfoaaDoor
