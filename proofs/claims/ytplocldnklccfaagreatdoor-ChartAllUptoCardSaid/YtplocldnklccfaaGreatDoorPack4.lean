/- Accounts of a chart: all of them, by rising name; What calls on a chart do to its list of accounts: in plain words. No program; The tree of a chart's accounts from the roots on; a name's path. No program; Good names in plain words: what stands above a good name is good; a scan of a name; its beginnings ahead of colons. No program; Path, Root, Under; What the reference's chart does to its list of accounts, in plain words. No program; A row of things that can be read; append of one (parts of XBookMem and XAppRow, for seats without the books). -/
import Derived.Test.YtplocldnklccfaaGreatDoorPack3
import Derived.OwnWalkIn
import Derived.Test.YtplocldnklccfaaGreatDoorPack1
import Derived.Test.YtplocldnklccfaaGreatDoorPack2
import Derived.Deep.AppendLies
import Derived.Laws.AppendOwnNone
import Derived.Deep.RegionHeld3
namespace Go.Proofs.YtplocldnklccfaaGreatDoor
open Go.RowKit Go.Shelf
set_option linter.unusedVariables false
set_option linter.unusedSimpArgs false

attribute [local go_sem] Oper.semAt_some

theorem own_of_rowA {w : World} {B g cap : Nat} {L : List Acct} {cs : Array Value} (h : RowA w g L) (hB : B ≤ g) (hg : w.heap[g]? = some (.cells cs 159 (0, 0))) (hs : cs.size = cap * 4) (hn : L.length ≤ cap) (hc : cap ≤ maxLen) :
    w.ownsRow B 159 4 (.slice (some ⟨g, 0, none⟩) L.length cap) L.length (cellsA L) := by
  refine ⟨cellsA_len L, .inr ⟨g, cap, cs, rfl, hB, hg, hn, hc, hs, ?_⟩⟩
  apply List.ext_getElem?
  intro t
  by_cases ht : t < L.length * 4
  · have hj : t / 4 < L.length := by omega
    have hc0 : ∀ i, w.cell? ⟨g, i, none⟩ = cs[i]? := fun i => cell_of_blk hg
    have e : t = t / 4 * 4 + t % 4 := by omega
    rw [List.getElem?_take, if_pos ht, Array.getElem?_toList, ← hc0, e, cellsA_get L (t / 4) hj (t % 4) (by omega)]
    have h4 : t % 4 = 0 ∨ t % 4 = 1 ∨ t % 4 = 2 ∨ t % 4 = 3 := by omega
    rcases h4 with h5 | h5 | h5 | h5
    · rw [h5]; exact h.c0 _ hj
    · rw [h5]; exact h.c1 _ hj
    · rw [h5]; exact h.c2 _ hj
    · rw [h5]; exact h.c3 _ hj
  · rw [List.getElem?_eq_none (by simp; omega), List.getElem?_eq_none (by rw [cellsA_len]; omega)]

theorem calls_in {n k : Nat} {args : Array Value} {w : World} {R : Ending → World → Prop} (h : Calls Tryz.prog k args w R) : CallsIn Fence.wide n Tryz.prog k args w R := (callsIn_wide (n := n)).2 h

/-- What a round that has appended keeps. -/
theorem kp_appended {W w1 : World} {n₀ B Bl : Nat} {T t e : TypeId} {size k : Nat} {v v' : Value} {xs : List Value} {tmp : Obj} (hv : Boxed W Bl t v) (hrow : W.ownsRow n₀ e size v k xs) (hgrow : (W.alloc tmp).grownBy w1 v.ownBlock)
    (hT : T ≠ t) (hTe : T ≠ e) (hko : KeepsOthers W (w1.setCell ⟨Bl, 0, none⟩ v')) (hbel : Below n₀ W (w1.setCell ⟨Bl, 0, none⟩ v')) : Kp T n₀ B W (w1.setCell ⟨Bl, 0, none⟩ v') := by
  refine ⟨hbel, fun i u hi => ?_, hko.from B⟩
  have h1 : Boxed w1 i T u := (hi.alloc tmp).kept hgrow (hi.not_row hTe hrow)
  have hne : i ≠ Bl := fun e => by
    subst e
    have := (show W.heap[i]? = _ from hi).symm.trans (show W.heap[i]? = _ from hv)
    injection this with this
    injection this with _ h2
    exact hT h2
  exact h1.other hne v'

set_option maxRecDepth 100000 in
set_option maxHeartbeats 4000000 in
theorem Accounts_walk (n : Nat) (cb : Nat) (L ys : List Acct) (hp : ys.Perm L) (hL : Rising L) (hle : L.length ≤ 100) (Ak : Option Addr) (nk ck : Nat) (w : World) (hlt : cb < w.heap.size) (hc1 : w.cell? ⟨cb, 1, none⟩ = some (.slice Ak nk ck))
    (hit : ∀ (W : World) (Bt : Nat), Below w.heap.size w W → Bt < W.heap.size → W.cell? ⟨Bt, 0, none⟩ = some (.slice Ak nk ck) → It Fence.wide Tryz.prog 248 #[.pointer (some ⟨Bt, 0, none⟩)] 238 accV w.heap.size ys W) :
    CallsIn Fence.wide n Tryz.prog 159 #[.pointer (some ⟨cb, 0, none⟩)] w fun e w' => ∃ v, e = .returned v ∧ (AccRow w.heap.size w' L v ∧ w'.ownsRow w.heap.size 159 4 v L.length (cellsA L)) ∧ Below w.heap.size w w' := by
  obtain ⟨i0, hi, hz0, hz1, hz2⟩ := info_parts info_acc
  have HIT := Lib.hid hit
  clear hit
  have HP := Lib.hid hp
  have HL := Lib.hid hL
  clear hp hL
  have hyl : ys.length ≤ 100 := by rw [HP.out.length_eq]; exact hle
  have hd : Fence.wide.depth = none := rfl
  have hF : ∀ k, Fence.wide.fn k := fun _ => trivial
  have hro : Fence.wide.round = none := rfl
  have hin : ∀ (m k : Nat) (args : Array Value) (W : World) (R : Ending → World → Prop), Calls Tryz.prog k args W R → CallsIn Fence.wide m Tryz.prog k args W R := fun m k args W R h => calls_in h
  generalize Fence.wide = F at *
  have hdd : ∀ k : Nat, (F.depth.isSome = true → 1 ≤ k) := fun k h => by rw [hd] at h; cases h
  refine callsIn_of_wp_marks Tryz.func159 rfl (hF _) ?_ hro
  simp only [Tryz.ntmps159, List.size_toArray, List.length_cons, List.length_nil, Nat.reduceAdd, Nat.reduceSub, Array.replicate_succ, Array.replicate_zero, List.push_toArray, List.append_toArray, List.nil_append, List.cons_append]
  gi_wp2_with ((try refine ⟨hdd _, ?_⟩); gi_at_call 215; refine (below_in F _ (hF _) hro _ _ _ _).mono ?_; rintro e w' ⟨rfl, rfl⟩)
  have bL : Boxed ((w.alloc (.cells #[.slice none 0 0] 55)).alloc (.cells #[.slice Ak nk ck] 146)) w.heap.size 55 (.slice none 0 0) := (Boxed.new w 55 (.slice none 0 0)).alloc _
  have bT := Boxed.new (w.alloc (.cells #[.slice none 0 0] 55)) 146 (.slice Ak nk ck)
  rw [World.size_alloc] at bT
  have hB0 : Below w.heap.size w ((w.alloc (.cells #[.slice none 0 0] 55)).alloc (.cells #[.slice Ak nk ck] 146)) := ((Below.refl _ w).alloc (Nat.le_refl _) _).alloc (by simp) _
  have hsz : ((w.alloc (.cells #[.slice none 0 0] 55)).alloc (.cells #[.slice Ak nk ck] 146)).heap.size = w.heap.size + 2 := by simp
  obtain ⟨W0, hW0⟩ : ∃ W0, (w.alloc (.cells #[.slice none 0 0] 55)).alloc (.cells #[.slice Ak nk ck] 146) = W0 := ⟨_, rfl⟩
  rw [hW0] at bL bT hB0 hsz ⊢
  clear hW0
  refine wpIn_range_it (T := 238) (enc := accV) (n₀ := w.heap.size) (ys := ys) hd hro (gf := 248) (lb := #[.pointer (some ⟨w.heap.size + 1, 0, none⟩)]) rfl (hF _) (enters_of Tryz.func248 (by kernel_rfl) rfl)
    (HIT.out W0 (w.heap.size + 1) hB0 (by omega) bT.cell) (by omega)
    (fun pre W => (∃ v, Boxed W w.heap.size 55 v ∧ W.ownsRow w.heap.size 159 4 v pre.length (cellsA pre) ∧ True) ∧ Below w.heap.size w W)
    (fun pre W => False)
    (OwnFrom.and (Own.from (holdsRow_own _ _ _ _ _ (fun pre : List Acct => pre.length) cellsA (fun _ _ => True)) _) (ownFrom_below (Nat.le_refl _) (by omega)))
    (ownFrom_pure _ _)
    ⟨⟨_, bL, World.ownsRow_nil _ _ _ _, trivial⟩, hB0⟩
    (fun x a' W => ∃ Bx, W.heap[Bx]? = some (.cells #[.string x.name, .int .i64 x.typ, .int .i64 x.opened, .bool x.closed] 159 (0, 0)) ∧ a' = { tmps := #[.pointer (some ⟨cb, 0, none⟩), undef, .slice none 0 0, .pointer (some ⟨w.heap.size, 0, none⟩), .pointer (some ⟨Bx, 0, none⟩), .pointer (some ⟨cb, 0, none⟩), .pointer (some ⟨cb, 0, none⟩), .pointer (some ⟨cb, 1, none⟩), .slice Ak nk ck, .func (.func 248) #[] #[.pointer (some ⟨w.heap.size + 1, 0, none⟩)], accV x, undef, undef, undef, undef, undef, undef, undef], defers := [] })
    (fun x a' _ X Y row h hg hr => by
      obtain ⟨Bx, h1, h2⟩ := h
      refine ⟨Bx, (hg.block Bx (heap_lt h1) (fun e => ?_)).trans h1, h2⟩
      obtain ⟨_, o, ho, hc⟩ := hr Bx e.symm
      rw [h1] at ho; cases ho; cases hc)
    ?assign ?body ?done ?stop
  case assign =>
    rintro l2 m q x W' K hs' ⟨⟨v, hbv, hown, _⟩, hbel⟩ hK
    unfold accV
    gi_wp2
    exact hK _ _ (Kp.alloc _ (by omega)) ⟨⟨v, hbv.alloc _, hown.alloc _, trivial⟩, hbel.alloc (by omega) _⟩ ⟨W'.heap.size, heap_alloc_new _ _, rfl⟩
  case body =>
    rintro l2 m q x a' W' hs' ⟨⟨v, hbv, hown, _⟩, hbel⟩ ⟨Bx, hBx, rfl⟩ hq
    have hql : q.length < ys.length := by obtain ⟨t, ht⟩ := hq; rw [← ht]; simp
    have hcR := hbv.cell
    have hfR := hbv.frozen
    have x0 : W'.cell? ⟨Bx, 0, none⟩ = some (.string x.name) := by rw [cell_of_blk hBx]; rfl
    have x1 : W'.cell? ⟨Bx, 1, none⟩ = some (.int .i64 x.typ) := by rw [cell_of_blk hBx]; rfl
    have x2 : W'.cell? ⟨Bx, 2, none⟩ = some (.int .i64 x.opened) := by rw [cell_of_blk hBx]; rfl
    have x3 : W'.cell? ⟨Bx, 3, none⟩ = some (.bool x.closed) := by rw [cell_of_blk hBx]; rfl
    have HO := Lib.hid hown
    have HV := Lib.hid hbv
    clear hown hbv hq
    unfold accV
    gi_wp2_with (gi_at_builtin; refine wpListIn_append_own _ rfl _ _ 55 rfl w.heap.size 159 i0 (.agg #[.string ByteArray.empty, .int .i64 0, .int .i64 0, .bool false]) 4 40 Tryz.underlying55 hi hz0 hz1 hz2 rfl (by decide) _ _ _ rfl (HO.out.alloc _) ⟨W'.heap.size, 0, none⟩ 1 1 (encA x) rfl rfl ?c1 ?c2 ?c3 ?c4 ?c5 ?_)
    case c1 => exact enc_new W' x _
    case c2 => intro u hu; unfold encA at hu; simp at hu; rcases hu with rfl | rfl | rfl | rfl <;> rfl
    case c3 => unfold maxLen; omega
    case c4 => omega
    case c5 => simp; omega
    intro v' w1 hown' hgrow _
    obtain ⟨k1, k2, k3, k4, k5⟩ := Boxed.appended HV.out (by decide) HO.out (by omega) (Nat.le_refl _) hown' hgrow
    have HK := Lib.hid (And.intro k2 (And.intro k3 (And.intro k5 (kp_appended (B := W0.heap.size) (T := 238) HV.out HO.out hgrow (by decide) (by decide) k4 k5))))
    obtain ⟨g, cap, rfl⟩ := ownsRow_succ hown'
    have c1 := k1.cell
    have f1 := k1.frozen
    clear k1 k2 k3 k4 k5 hown' hgrow
    gi_wp2
    obtain ⟨k2, k3, k5, k6⟩ := HK.out
    exact ⟨k6, ⟨_, k2, by simpa [cellsA] using k3, trivial⟩, hbel.trans k5⟩
  case done =>
    rintro D W' hD ⟨⟨v, hbv, hown, _⟩, hbel⟩ hDd
    rcases row_of_own hown with ⟨rfl, rfl⟩ | ⟨g, cap, rfl, hgb, hra, hfr⟩
    · have hcR := hbv.cell
      have HL0 := Lib.hid (show L = [] from (List.perm_nil.1 HP.out.symm))
      have hs := fun m => hin m _ _ W' _ (AnyF.slices_SortFunc_none Tryz.sortAcc none 0 (.func (.func 217) #[] #[]) W')
      change ∀ m, CallsIn F m Tryz.prog 216 _ _ _ at hs
      gi_wp2_with ((try refine ⟨hdd _, ?_⟩); gi_at_call 216; refine (hs _).mono ?_; rintro e w2 ⟨rfl, hw2⟩; have hw3 := hw2.symm; subst hw3)
      refine ⟨by simp, .inl ⟨_, _, rfl, run_takeDeferred hDd, ?_⟩⟩
      refine ⟨.slice none 0 0, by simp [results, Tryz.results159, go_sem], _, rfl, ⟨.nil HL0.out, by rw [HL0.out]; exact World.ownsRow_nil _ _ _ _⟩, ?_⟩
      exact hbel.trans (belowK_b (w := w) (Nat.le_refl _) W' D _ _ (by omega) hDd rfl rfl)
    · have hcR := hbv.cell
      have hs := fun m => hin m _ _ W' _ (sort_acc HP.out HL.out hle g cap W' hra hfr)
      have hDg : D ≠ g := fun e => by
        subst e
        rcases hown.2 with ⟨h0, _⟩ | ⟨g', cap', cur, e2, _, hg, _⟩
        · cases h0
        · cases e2
          rw [hg] at hDd
          cases hDd
      have hgB : g ≠ w.heap.size := fun e => by
        have := hbv.not_row (by decide) hown
        exact this (by rw [e]; rfl)
      have HBV := Lib.hid hbv
      have HOWN := Lib.hid hown
      clear hown hbv
      have hgl := hra.lt
      gi_wp2_with ((try refine ⟨hdd _, ?_⟩); gi_at_call 216; refine (hs _).mono ?_; rintro e w2 ⟨rfl, hra2, hch, hshape⟩; have HSH := Lib.hid hshape; clear hshape; have hcR2 : w2.cell? ⟨w.heap.size, 0, none⟩ = some (.slice (some ⟨g, 0, none⟩) ys.length cap) := (Boxed.cell ((hch.block _ HBV.out.lt (Ne.symm hgB)).trans HBV.out)))
      have hDd2 : w2.heap[D]? = some (.deferred (some [])) := (hch.block D (heap_lt hDd) hDg).trans hDd
      refine ⟨by simp, .inl ⟨_, _, rfl, run_takeDeferred hDd2, ?_⟩⟩
      refine ⟨.slice (some ⟨g, 0, none⟩) ys.length cap, by simp [results, Tryz.results159, go_sem], _, rfl, ?_, ?_⟩
      · rw [HP.out.length_eq]
        have hk : ∀ i, (w2.putObj D (.deferred none)).cell? ⟨g, i, none⟩ = w2.cell? ⟨g, i, none⟩ := fun i => by simp [World.cell?, heap_putObj_other _ (Ne.symm hDg)]
        have hra3 : RowA (w2.putObj D (.deferred none)) g L := ⟨by have := hra2.lt; simpa [World.putObj] using this, fun j hj => (hk _).trans (hra2.c0 j hj), fun j hj => (hk _).trans (hra2.c1 j hj), fun j hj => (hk _).trans (hra2.c2 j hj), fun j hj => (hk _).trans (hra2.c3 j hj)⟩
        refine ⟨.row g cap hgb hra3, ?_⟩
        obtain ⟨cap', cur, e1, _, hg, r1, r2, r3, _⟩ := own_block HOWN.out (g := g) rfl
        injection e1 with _ _ e1
        subst e1
        obtain ⟨cs', hg2, hsz⟩ := HSH.out cur _ hg
        exact own_of_rowA hra3 hgb ((heap_putObj_other _ (Ne.symm hDg)).trans hg2) (by rw [hsz, r3]) (by rw [← HP.out.length_eq]; exact r1) r2
      · exact (hbel.trans (hch.toBelow hbel.size fun k e => by subst e; exact hgb)).trans (belowK_b (w := w) (Nat.le_refl _) w2 D _ _ (by omega) hDd2 rfl rfl)
  case stop =>
    rintro D q W' hD hq h
    exact h.elim

theorem Accounts_own {w : World} {F : Nat → Prop} {cb : Nat} {L : List Acct} (h : ChartAt w F cb L) (hv : Valid L) :
    Calls Tryz.prog 159 #[.pointer (some ⟨cb, 0, none⟩)] w fun e w' => ∃ v, e = .returned v ∧ (AccRow w.heap.size w' L v ∧ w'.ownsRow w.heap.size 159 4 v L.length (cellsA L)) ∧ Below w.heap.size w w' := by
  obtain ⟨mb, rv, nb, kv, ps, hcr⟩ := h
  have hc1 : w.cell? ⟨cb, 1, none⟩ = some rv := by rw [cell_of_blk hcr.hC]; rfl
  obtain ⟨hfo, hroots⟩ := hcr.forest
  have hrow := hroots
  obtain ⟨Ak, ck, rfl, _⟩ := hroots.ex
  have hB : ∀ b ∈ rootsA L, 102 < b.name.size + 103 := fun b _ => by omega
  have hkl : (rootsA L).length ≤ 100 := Nat.le_trans (List.length_filter_le _ _) hv.le
  have hit : ∀ (W : World) (Bt : Nat), Below w.heap.size w W → Bt < W.heap.size → W.cell? ⟨Bt, 0, none⟩ = some (.slice Ak (rootsA L).length ck) → It Fence.wide Tryz.prog 248 #[.pointer (some ⟨Bt, 0, none⟩)] 238 accV w.heap.size (flatA L (rootsA L)) W :=
    fun W Bt hb hBt hcell => seq_it Fence.wide rfl (fun _ => trivial) rfl w.heap.size L nb kv 102 hv.le (fun a ha => hv.size ha) hv.kid 103 (rootsA L) (fun b hb => (List.mem_filter.1 hb).1) hB hkl Bt _ W hb.size hBt hcell (hrow.below hb) (hfo.below hb)
  exact (callsIn_wide (n := 3)).1 (Accounts_walk 3 cb L _ (flat_perm hv) hv.rising hv.le Ak _ ck w (heap_lt hcr.hC) hc1 hit)
theorem Accounts_any {w : World} {F : Nat → Prop} {cb : Nat} {L : List Acct} (h : ChartAt w F cb L) (hv : Valid L) :
    Calls Tryz.prog 159 #[.pointer (some ⟨cb, 0, none⟩)] w fun e w' => ∃ v, e = .returned v ∧ AccRow w.heap.size w' L v ∧ Below w.heap.size w w' :=
  (Accounts_own h hv).mono fun e w' ⟨v, h1, h2, h3⟩ => ⟨v, h1, h2.1, h3⟩
end Go.Proofs.YtplocldnklccfaaGreatDoor
namespace Go.Proofs.YtplocldnklccfaaGreatDoor
open Go.RowKit
set_option linter.unusedVariables false
set_option linter.unusedSimpArgs false

theorem mem_flat_self {L l : List Acct} {a : Acct} (h : a ∈ l) : a ∈ flatA L l := List.mem_flatMap.2 ⟨a, h, List.mem_cons_self ..⟩

/-- What is told below a list whose accounts are closed is closed. -/
theorem flat_closed {L : List Acct} (hv : Valid L) : ∀ (d : Nat) (l : List Acct), (∀ a ∈ l, a ∈ L) → (∀ a ∈ l, a.closed = true) → ∀ x ∈ preL L d l, x.closed = true
  | 0, l, _, _, x, hx => by simp [preL] at hx
  | d + 1, l, hl, hc, x, hx => by
    obtain ⟨a, ha, hx⟩ := List.mem_flatMap.1 hx
    rcases List.mem_cons.1 hx with rfl | hx
    · exact hc _ ha
    · refine flat_closed hv d (kidsA L a.name) (fun b hb => (List.mem_filter.1 hb).1) (fun b hb => ?_) x hx
      obtain ⟨hbL, hbp⟩ := List.mem_filter.1 hb
      obtain ⟨p, hp, e, _, _, h3⟩ := hv.up b hbL a.name (by simpa using hbp)
      have : p = a := hv.rising.inj hp (hl a ha) e
      exact h3 (this ▸ hc a ha)

theorem flat_all {L : List Acct} (hv : Valid L) (n : ByteArray) : (flatA L (kidsA L n)).all (·.closed) = (kidsA L n).all (·.closed) := by
  rw [Bool.eq_iff_iff, List.all_eq_true, List.all_eq_true]
  constructor
  · intro h x hx
    exact h x (mem_flat_self hx)
  · intro h x hx
    exact flat_closed hv 103 _ (fun b hb => (List.mem_filter.1 hb).1) h x hx

theorem closeE_kids {L : List Acct} (hv : Valid L) (name : ByteArray) : closeE L name = match findA L name with
    | none => 61
    | some a => if a.closed then 63 else if (kidsA L name).all (·.closed) then 0 else 65 := by
  unfold closeE
  cases hf : findA L name with
  | none => rfl
  | some a =>
    obtain ⟨ha, rfl⟩ := findA_some hf
    simp only [flat_all hv]

theorem rising_shut {L : List Acct} (n : ByteArray) (h : Rising L) : Rising (shutA n L) := by
  unfold Rising shutA at *
  rw [List.pairwise_map]
  refine h.imp ?_
  intro a b hab
  have e : ∀ c : Acct, (if c.name = n then { c with closed := true } else c).name = c.name := fun c => by split <;> rfl
  rw [e, e]
  exact hab

theorem mem_shut_of {n : ByteArray} {L : List Acct} {b : Acct} (h : b ∈ L) : (if b.name = n then { b with closed := true } else b) ∈ shutA n L := List.mem_map.2 ⟨b, h, rfl⟩

theorem close_valid {L : List Acct} (hv : Valid L) (name : ByteArray) : Valid (closeL L name) := by
  unfold closeL
  split
  · rename_i hE
    rw [closeE_kids hv] at hE
    cases hf : findA L name with
    | none => rw [hf] at hE; simp at hE
    | some a =>
      rw [hf] at hE
      simp only at hE
      obtain ⟨ha, rfl⟩ := findA_some hf
      have hk : (kidsA L a.name).all (·.closed) = true := by
        split at hE
        · cases hE
        · split at hE
          · assumption
          · cases hE
      rw [List.all_eq_true] at hk
      refine ⟨rising_shut _ hv.rising, by unfold shutA; simpa using hv.le, fun x hx => ?_, fun x hx u hu => ?_, fun x hx => ?_, fun x hx => ?_⟩
      · obtain ⟨b, hb, e, _⟩ := mem_shut hx
        rw [e]; exact hv.good b hb
      · obtain ⟨b, hb, e1, e2, e3, e4⟩ := mem_shut hx
        rw [e1] at hu
        obtain ⟨p, hp, rfl, h1, h2, h3⟩ := hv.up b hb u hu
        refine ⟨_, mem_shut_of (n := a.name) hp, by split <;> rfl, by rw [e2, ← h1]; split <;> rfl, by rw [e3]; refine Int.le_trans (Int.le_of_eq ?_) h2; split <;> rfl, fun hc => ?_⟩
        rw [e4]
        by_cases hba : b.name = a.name
        · rw [if_pos hba]
        · rw [if_neg hba]
          by_cases hpa : p.name = a.name
          · exact hk b (List.mem_filter.2 ⟨hb, by rw [hu, hpa]; simp⟩)
          · rw [if_neg hpa] at hc
            exact h3 hc
      · obtain ⟨b, hb, _, _, e, _⟩ := mem_shut hx
        rw [e]; exact hv.day b hb
      · obtain ⟨b, hb, _, e, _, _⟩ := mem_shut hx
        rw [e]; exact hv.typ b hb
  · exact hv

/-- One act: a call's kind and what it is handed. -/
structure ActV where
  kind : Int
  typ : Int
  day : Int
  name : ByteArray

def actE (L : List Acct) (a : ActV) : Int := if a.kind = 1 then openE L a.name a.typ a.day else if a.kind = 2 then closeE L a.name else if a.kind = 3 then mayE L a.name a.day else 0
def actL (L : List Acct) (a : ActV) : List Acct := if a.kind = 1 then openL L a.name a.typ a.day else if a.kind = 2 then closeL L a.name else L
def playL (L : List Acct) (ac : List ActV) : List Acct := ac.foldl actL L

theorem act_valid {L : List Acct} (hv : Valid L) (a : ActV) : Valid (actL L a) := by
  unfold actL
  split
  · exact open_valid hv _ _ _
  · split
    · exact close_valid hv _
    · exact hv
theorem play_valid : ∀ (ac : List ActV) {L : List Acct}, Valid L → Valid (playL L ac)
  | [], _, h => h
  | a :: r, _, h => play_valid r (act_valid h a)
theorem playL_take (L : List Acct) (ac : List ActV) (k : Nat) (h : k < ac.length) : playL L (ac.take (k + 1)) = actL (playL L (ac.take k)) ac[k] := by
  unfold playL
  rw [List.take_succ_eq_append_getElem h, List.foldl_append]
  rfl

/-- A call that is refused changes nothing. -/
theorem act_refused (L : List Acct) (a : ActV) (h : actE L a ≠ 0 ∨ a.kind = 3) : actL L a = L := by
  unfold actE at h
  unfold actL openL closeL
  split
  · rename_i h1
    rw [if_pos h1] at h
    rw [if_neg]
    intro e
    rcases h with h | h
    · exact h e
    · omega
  · rename_i h1
    rw [if_neg h1] at h
    split
    · rename_i h2
      rw [if_pos h2] at h
      rw [if_neg]
      intro e
      rcases h with h | h
      · exact h e
      · omega
    · rfl
end Go.Proofs.YtplocldnklccfaaGreatDoor
namespace Go.Proofs.YtplocldnklccfaaGreatDoor
open Go.RowKit
set_option linter.unusedVariables false
set_option linter.unusedSimpArgs false

def namesA (l : List Acct) : List ByteArray := l.map (·.name)
theorem names_nodup {L : List Acct} (h : Rising L) : (namesA L).Nodup := by
  unfold namesA List.Nodup
  rw [List.pairwise_map]
  refine List.Pairwise.imp ?_ h
  intro a b hab e
  exact cmp_ne hab e

/-- The list of names seen so far, n of them asked for their kids. -/
structure Bfs (L : List Acct) (left : List ByteArray) (n : Nat) : Prop where
  le : n ≤ left.length
  nodup : left.Nodup
  mem : ∀ x ∈ left, x ∈ namesA L
  roots : ∀ a ∈ L, parentF a.name = none → a.name ∈ left
  kids : ∀ a ∈ L, ∀ u, parentF a.name = some u → (a.name ∈ left ↔ u ∈ left.take n)

theorem bfs_start {L : List Acct} (hv : Valid L) : Bfs L (namesA (rootsA L)) 0 where
  le := Nat.zero_le _
  nodup := names_nodup (rising_filter _ hv.rising)
  mem := fun x hx => by
    obtain ⟨a, ha, rfl⟩ := List.mem_map.1 hx
    exact List.mem_map.2 ⟨a, (List.mem_filter.1 ha).1, rfl⟩
  roots := fun a ha hu => List.mem_map.2 ⟨a, List.mem_filter.2 ⟨ha, by simp [hu]⟩, rfl⟩
  kids := fun a ha u hu => by
    constructor
    · intro h
      obtain ⟨b, hb, e⟩ := List.mem_map.1 h
      obtain ⟨_, hb⟩ := List.mem_filter.1 hb
      have hb : parentF b.name = none := by simpa using hb
      have e : b.name = a.name := e
      rw [e, hu] at hb
      cases hb
    · intro h
      simp at h

theorem take_snoc_mem {α : Type} {l : List α} {n : Nat} (hn : n < l.length) (m : List α) (x : α) : x ∈ (l ++ m).take (n + 1) ↔ x ∈ l.take n ∨ x = l[n] := by
  rw [List.take_append_of_le_length (by omega), List.take_succ_eq_append_getElem hn, List.mem_append, List.mem_singleton]

theorem not_mem_take {α : Type} {l : List α} (h : l.Nodup) {n : Nat} (hn : n < l.length) : l[n] ∉ l.take n := by
  intro hm
  rw [List.mem_take_iff_getElem] at hm
  obtain ⟨i, hi, e⟩ := hm
  exact List.pairwise_iff_getElem.1 h i n (by omega) hn (by omega) e

theorem bfs_step {L : List Acct} (hv : Valid L) {left : List ByteArray} {n : Nat} (h : Bfs L left n) (hn : n < left.length) :
    Bfs L (left ++ namesA (kidsA L left[n])) (n + 1) where
  le := by rw [List.length_append]; omega
  nodup := by
    rw [List.nodup_append]
    refine ⟨h.nodup, names_nodup (rising_filter _ hv.rising), ?_⟩
    intro x hx y hy e
    subst e
    obtain ⟨a, ha, rfl⟩ := List.mem_map.1 hy
    obtain ⟨haL, hp⟩ := List.mem_filter.1 ha
    have hp : parentF a.name = some left[n] := by simpa using hp
    exact not_mem_take h.nodup hn ((h.kids a haL _ hp).1 hx)
  mem := fun x hx => by
    rcases List.mem_append.1 hx with hx | hx
    · exact h.mem x hx
    · obtain ⟨a, ha, rfl⟩ := List.mem_map.1 hx
      exact List.mem_map.2 ⟨a, (List.mem_filter.1 ha).1, rfl⟩
  roots := fun a ha hu => List.mem_append.2 (.inl (h.roots a ha hu))
  kids := fun a ha u hu => by
    rw [take_snoc_mem hn, List.mem_append, h.kids a ha u hu]
    constructor
    · rintro (h1 | h1)
      · exact .inl h1
      · obtain ⟨b, hb, e⟩ := List.mem_map.1 h1
        obtain ⟨_, hp⟩ := List.mem_filter.1 hb
        have hp : parentF b.name = some left[n] := by simpa using hp
        have e : b.name = a.name := e
        rw [e, hu] at hp
        injection hp with hp
        exact .inr hp
    · rintro (h1 | h1)
      · exact .inl h1
      · exact .inr (List.mem_map.2 ⟨a, List.mem_filter.2 ⟨ha, by rw [hu, h1]; simp⟩, rfl⟩)

theorem bfs_len {L : List Acct} {left : List ByteArray} {n : Nat} (h : Bfs L left n) : left.length ≤ L.length := by
  have := h.nodup.length_le_of_subset (l₂ := namesA L) h.mem
  unfold namesA at this
  rwa [List.length_map] at this

theorem bfs_end {L : List Acct} (hv : Valid L) {left : List ByteArray} (h : Bfs L left left.length) : left.length = L.length := by
  have hall : ∀ m (a : Acct), a ∈ L → a.name.size = m → a.name ∈ left := by
    intro m
    induction m using Nat.strongRecOn with
    | _ m ih =>
      intro a ha hm
      cases hu : parentF a.name with
      | none => exact h.roots a ha hu
      | some u =>
        obtain ⟨p, hp, rfl, _⟩ := hv.up a ha u hu
        have := parent_size hu
        rw [h.kids a ha _ hu, List.take_of_length_le (Nat.le_refl _)]
        exact ih p.name.size (by omega) p hp rfl
  have h1 := bfs_len h
  have h2 := (names_nodup hv.rising).length_le_of_subset (l₂ := left) fun x hx => by
    obtain ⟨a, ha, rfl⟩ := List.mem_map.1 hx
    exact hall _ a ha rfl
  unfold namesA at h2
  rw [List.length_map] at h2
  omega

/-- A name and all above it. -/
def pathF : Nat → ByteArray → List ByteArray
  | 0, _ => []
  | d + 1, n => n :: match parentF n with
    | none => []
    | some u => pathF d u

theorem path_more : ∀ (d e : Nat) (n : ByteArray), n.size < d → d ≤ e → pathF d n = pathF e n
  | 0, _, _, h, _ => by omega
  | d + 1, 0, _, _, h => by omega
  | d + 1, e + 1, n, h, h' => by
    unfold pathF
    cases hp : parentF n with
    | none => rfl
    | some u =>
      have := parent_size hp
      simp only
      rw [path_more d e u (by omega) (by omega)]

/-- Is a name another one, or below it? -/
def underF (a b : ByteArray) : Bool := goodB a.data.toList && goodB b.data.toList && (decide (a = b) || (b.data.toList ++ [58]).isPrefixOf a.data.toList)

theorem ba_ext {a b : ByteArray} (h : a.data.toList = b.data.toList) : a = b := by
  cases a; cases b
  simp only [ByteArray.mk.injEq]
  exact Array.toList_inj.1 h

theorem last_idx {n : ByteArray} : (Lib.lastIndexByte n 58 = -1 ∧ (58 : UInt8) ∉ n.data.toList) ∨ ∃ (i : Nat) (hi : i < n.data.toList.length), Lib.lastIndexByte n 58 = i ∧ n.data.toList[i] = 58 ∧ ∀ j (hj : j < n.data.toList.length), i < j → n.data.toList[j] ≠ 58 := by
  have key : ∀ j (hj : j < n.data.toList.length), ((n.data[j]!).toNat : Int) = 58 ↔ n.data.toList[j] = 58 := fun j hj => by
    have hj' : j < n.data.size := by simpa using hj
    rw [getElem!_pos n.data j hj', Array.getElem_toList, ← UInt8.toNat_inj]
    show _ ↔ _ = 58
    omega
  rcases Lib.lastIndexByte_spec n 58 with ⟨e, h⟩ | ⟨i, hi, e, hc, hl⟩
  · refine .inl ⟨e, fun hm => ?_⟩
    obtain ⟨k, hk, e2⟩ := List.getElem_of_mem hm
    exact h k (by simpa using hk) ((key k hk).2 e2)
  · have hi' : i < n.data.toList.length := by simpa using hi
    exact .inr ⟨i, hi', e, (key i hi').1 hc, fun j hj h1 e2 => hl j h1 (by simpa using hj) ((key j hj).2 e2)⟩

/-- A name that has one above it: that one, a colon, and what holds no colon. -/
theorem parent_cut {n u : ByteArray} (h : parentF n = some u) : ∃ r, n.data.toList = u.data.toList ++ 58 :: r ∧ (58 : UInt8) ∉ r := by
  obtain ⟨_, i, hi, rfl, e⟩ := parent_some h
  rcases last_idx (n := n) with ⟨e', _⟩ | ⟨j, hj, e', hc, hl⟩
  · rw [e'] at e; omega
  · have hji : j = i := by rw [e'] at e; omega
    subst hji
    refine ⟨n.data.toList.drop (j + 1), ?_, ?_⟩
    · rw [extract0_list]
      conv => rhs; rw [← hc, List.getElem_cons_drop, List.take_append_drop]
    · intro hm
      obtain ⟨k, hk, e2⟩ := List.getElem_of_mem hm
      rw [List.getElem_drop] at e2
      exact hl _ _ (by omega) e2

theorem parent_none {n : ByteArray} (hg : goodB n.data.toList = true) (h : parentF n = none) : (58 : UInt8) ∉ n.data.toList := by
  rcases last_idx (n := n) with ⟨_, h'⟩ | ⟨j, hj, e', hc, hl⟩
  · exact h'
  · unfold parentF at h
    rw [if_pos ⟨hg, by omega⟩] at h
    cases h

theorem path_prefix : ∀ (d : Nat) (n b : ByteArray), b ∈ pathF d n → b = n ∨ (b.data.toList ++ [58]) <+: n.data.toList
  | 0, n, b, h => by simp [pathF] at h
  | d + 1, n, b, h => by
    unfold pathF at h
    rcases List.mem_cons.1 h with h | h
    · exact .inl h
    · cases hp : parentF n with
      | none => rw [hp] at h; simp at h
      | some u =>
        rw [hp] at h
        obtain ⟨r, e, _⟩ := parent_cut hp
        right
        rcases path_prefix d u b h with rfl | ⟨t, h⟩
        · exact ⟨r, by rw [e]; simp⟩
        · exact ⟨t ++ 58 :: r, by rw [e, ← h]; simp⟩

theorem prefix_path {L : List Acct} (hv : Valid L) : ∀ (d : Nat) (n b : ByteArray), n.size < d → n ∈ namesA L → (b = n ∨ (b.data.toList ++ [58]) <+: n.data.toList) → b ∈ pathF d n
  | 0, n, b, h, _, _ => by omega
  | d + 1, n, b, hd, hn, h => by
    unfold pathF
    rcases h with rfl | ⟨t, ht⟩
    · exact List.mem_cons_self ..
    · apply List.mem_cons_of_mem
      obtain ⟨a, ha, rfl⟩ := List.mem_map.1 hn
      cases hp : parentF a.name with
      | none =>
        exact absurd (by rw [← ht]; simp) (parent_none (hv.good a ha) hp)
      | some u =>
        obtain ⟨p, hpL, rfl, _⟩ := hv.up a ha u hp
        have hsz := parent_size hp
        refine prefix_path hv d p.name b (by omega) (List.mem_map.2 ⟨p, hpL, rfl⟩) ?_
        obtain ⟨r, e, hr⟩ := parent_cut hp
        have he : b.data.toList ++ 58 :: t = p.name.data.toList ++ 58 :: r := by
          rw [← e, ← ht]; simp
        rcases Nat.lt_trichotomy b.data.toList.length p.name.data.toList.length with hl | hl | hl
        · right
          have := congrArg (List.take (b.data.toList.length + 1)) he
          rw [List.take_append_of_le_length (l₁ := p.name.data.toList) (by omega)] at this
          refine ⟨p.name.data.toList.drop (b.data.toList.length + 1), ?_⟩
          have e3 : List.take (b.data.toList.length + 1) (b.data.toList ++ 58 :: t) = b.data.toList ++ [58] := by
            rw [List.take_append, List.take_of_length_le (by omega)]
            simp
          rw [e3] at this
          rw [this, List.take_append_drop]
        · left
          exact ba_ext (List.append_inj_left he hl)
        · exfalso
          have h1 : (b.data.toList ++ 58 :: t)[b.data.toList.length]? = some 58 := by simp
          rw [he, List.getElem?_append_right (by omega)] at h1
          obtain ⟨k, hk⟩ : ∃ k, b.data.toList.length - p.name.data.toList.length = k + 1 := ⟨b.data.toList.length - p.name.data.toList.length - 1, by omega⟩
          rw [hk, List.getElem?_cons_succ] at h1
          exact hr (List.mem_of_getElem? h1)

theorem path_names {L : List Acct} (hv : Valid L) : ∀ (d : Nat) (n : ByteArray), n ∈ namesA L → ∀ b ∈ pathF d n, b ∈ namesA L
  | 0, n, _, b, h => by simp [pathF] at h
  | d + 1, n, hn, b, h => by
    unfold pathF at h
    rcases List.mem_cons.1 h with rfl | h
    · exact hn
    · obtain ⟨a, ha, rfl⟩ := List.mem_map.1 hn
      cases hp : parentF a.name with
      | none => rw [hp] at h; simp at h
      | some u =>
        rw [hp] at h
        obtain ⟨p, hpL, rfl, _⟩ := hv.up a ha u hp
        exact path_names hv d p.name (List.mem_map.2 ⟨p, hpL, rfl⟩) b h

/-- A name is under just those of its path. -/
theorem path_under {L : List Acct} (hv : Valid L) {a b : Acct} (ha : a ∈ L) (hb : b ∈ L) : (pathF 103 a.name).any (fun x => decide (x = b.name)) = underF a.name b.name := by
  have hsz := hv.size ha
  unfold underF
  rw [hv.good a ha, hv.good b hb, Bool.true_and, Bool.true_and, Bool.eq_iff_iff]
  simp only [decide_eq_true_eq, Bool.or_eq_true, List.isPrefixOf_iff_prefix, List.any_eq_true, exists_eq_right]
  constructor
  · intro h
    rcases path_prefix _ _ _ h with h | h
    · exact .inl h.symm
    · exact .inr h
  · rintro (h | h)
    · exact prefix_path hv 103 _ _ (by omega) (List.mem_map.2 ⟨a, ha, rfl⟩) (.inl h.symm)
    · exact prefix_path hv 103 _ _ (by omega) (List.mem_map.2 ⟨a, ha, rfl⟩) (.inr h)

/-- Along a path the types are one, and what stands above a closed account's... : closed goes down. -/
theorem path_types {L : List Acct} (hv : Valid L) : ∀ (d : Nat) (a b : Acct), a ∈ L → b ∈ L → b.name ∈ pathF d a.name → b.typ = a.typ ∧ (b.closed = true → a.closed = true)
  | 0, a, b, _, _, h => by simp [pathF] at h
  | d + 1, a, b, ha, hb, h => by
    unfold pathF at h
    rcases List.mem_cons.1 h with h | h
    · have : b = a := hv.rising.inj hb ha h
      subst this
      exact ⟨rfl, id⟩
    · cases hp : parentF a.name with
      | none => rw [hp] at h; simp at h
      | some u =>
        rw [hp] at h
        obtain ⟨p, hpL, rfl, h1, _, h3⟩ := hv.up a ha u hp
        obtain ⟨e1, e2⟩ := path_types hv d p b hpL hb h
        exact ⟨e1.trans h1, fun hc => h3 (e2 hc)⟩

/-- What stands ahead of the first colon. -/
def rootF (n : ByteArray) : ByteArray := ⟨(n.data.toList.takeWhile (fun c => decide (c ≠ 58))).toArray⟩

theorem first_of_mem : ∀ {l : List UInt8}, (58 : UInt8) ∈ l → ∃ s t, l = s ++ 58 :: t ∧ (58 : UInt8) ∉ s
  | [], h => by simp at h
  | a :: r, h => by
    by_cases ha : a = 58
    · exact ⟨[], r, by rw [ha]; rfl, by simp⟩
    · obtain ⟨s, t, e, hs⟩ := first_of_mem (l := r) (by
        rcases List.mem_cons.1 h with h | h
        · exact absurd h.symm ha
        · exact h)
      exact ⟨a :: s, t, by rw [e]; rfl, by
        intro hm
        rcases List.mem_cons.1 hm with hm | hm
        · exact ha hm.symm
        · exact hs hm⟩
theorem takeWhile_cut {m r : List UInt8} (h : (58 : UInt8) ∉ m) : (m ++ 58 :: r).takeWhile (fun c => decide (c ≠ 58)) = m := by
  rw [List.takeWhile_append_of_pos]
  · simp
  · intro c hc
    have : c ≠ 58 := fun e => h (e ▸ hc)
    simpa using this
theorem takeWhile_all {m : List UInt8} (h : (58 : UInt8) ∉ m) : m.takeWhile (fun c => decide (c ≠ 58)) = m := by
  induction m with
  | nil => rfl
  | cons a r ih =>
    have ha : a ≠ 58 := fun e => h (by rw [e]; simp)
    rw [List.takeWhile_cons, if_pos (by simpa using ha), ih (fun e => h (List.mem_cons_of_mem _ e))]

theorem root_of_parent {n u : ByteArray} (h : parentF n = some u) : rootF n = rootF u := by
  obtain ⟨r, e, _⟩ := parent_cut h
  unfold rootF
  rw [e]
  by_cases hm : (58 : UInt8) ∈ u.data.toList
  · obtain ⟨s, t, e2, hs⟩ : ∃ s t, u.data.toList = s ++ 58 :: t ∧ (58 : UInt8) ∉ s := first_of_mem hm
    rw [e2, List.append_assoc, List.cons_append, takeWhile_cut hs, takeWhile_cut hs]
  · rw [takeWhile_cut hm, takeWhile_all hm]

/-- A path ends with the root. -/
theorem path_last {L : List Acct} (hv : Valid L) : ∀ (d : Nat) (n : ByteArray), n.size < d → n ∈ namesA L → (pathF d n).getLast? = some (rootF n)
  | 0, n, h, _ => by omega
  | d + 1, n, hd, hn => by
    unfold pathF
    obtain ⟨a, ha, rfl⟩ := List.mem_map.1 hn
    cases hp : parentF a.name with
    | none =>
      have := parent_none (hv.good a ha) hp
      unfold rootF
      rw [takeWhile_all this]
      rfl
    | some u =>
      obtain ⟨p, hpL, rfl, _⟩ := hv.up a ha u hp
      have hsz := parent_size hp
      simp only
      rw [root_of_parent hp, List.getLast?_cons, path_last hv d p.name (by omega) (List.mem_map.2 ⟨p, hpL, rfl⟩)]
      rfl
end Go.Proofs.YtplocldnklccfaaGreatDoor
namespace Go.Proofs.YtplocldnklccfaaGreatDoor
set_option linter.unusedVariables false
set_option linter.unusedSimpArgs false

theorem splitC_at (r : List UInt8) : splitC 58 (58 :: r) = [] :: splitC 58 r := by
  show (if (58 : UInt8) = 58 then [] :: splitC 58 r else _) = _
  rw [if_pos rfl]
theorem splitC_on {c : UInt8} (h : c ≠ 58) {r q : List UInt8} {qs : List (List UInt8)} (hs : splitC 58 r = q :: qs) : splitC 58 (c :: r) = (c :: q) :: qs := by
  show (if c = 58 then [] :: splitC 58 r else match splitC 58 r with | [] => [[c]] | p :: ps => (c :: p) :: ps) = _
  rw [if_neg h, hs]
theorem split_two (u r : List UInt8) : splitC 58 (u ++ 58 :: r) = splitC 58 u ++ splitC 58 r := by
  induction u with
  | nil => exact splitC_at r
  | cons x u ih =>
    rw [List.cons_append]
    by_cases h : x = 58
    · subst h
      rw [splitC_at, splitC_at, ih]; rfl
    · cases hs : splitC 58 u with
      | nil => exact absurd hs (splitC_ne 58 u)
      | cons p ps =>
        rw [hs] at ih
        rw [splitC_on h hs, splitC_on h ih]
        rfl
/-- What stands ahead of a colon of a good name is good. -/
theorem good_head {u r : List UInt8} (h : goodB (u ++ 58 :: r) = true) : goodB u = true := by
  unfold goodB at *
  simp only [Bool.and_eq_true, decide_eq_true_eq, Bool.not_eq_true', List.any_eq_false] at *
  obtain ⟨h1, h2, h3⟩ := h
  rw [split_two] at h2 h3
  refine ⟨by simp at h1; omega, by simp at h2; omega, fun p hp => h3 p (List.mem_append_left _ hp)⟩
theorem good_up {n u : ByteArray} (h : parentF n = some u) : goodB u.data.toList = true := by
  obtain ⟨r, e, _⟩ := parent_cut h
  obtain ⟨hg, _⟩ := parent_some h
  rw [e] at hg
  exact good_head hg
theorem prefix_path_good : ∀ (d : Nat) (n b : ByteArray), n.size < d → goodB n.data.toList = true → (b = n ∨ (b.data.toList ++ [58]) <+: n.data.toList) → b ∈ pathF d n
  | 0, n, b, h, _, _ => by omega
  | d + 1, n, b, hd, hn, h => by
    unfold pathF
    rcases h with rfl | ⟨t, ht⟩
    · exact List.mem_cons_self ..
    · apply List.mem_cons_of_mem
      cases hp : parentF n with
      | none => exact absurd (by rw [← ht]; simp) (parent_none hn hp)
      | some u =>
        have hsz := parent_size hp
        refine prefix_path_good d u b (by omega) (good_up hp) ?_
        obtain ⟨r, e, hr⟩ := parent_cut hp
        have he : b.data.toList ++ 58 :: t = u.data.toList ++ 58 :: r := by
          rw [← e, ← ht]; simp
        rcases Nat.lt_trichotomy b.data.toList.length u.data.toList.length with hl | hl | hl
        · right
          have := congrArg (List.take (b.data.toList.length + 1)) he
          rw [List.take_append_of_le_length (l₁ := u.data.toList) (by omega)] at this
          refine ⟨u.data.toList.drop (b.data.toList.length + 1), ?_⟩
          have e3 : List.take (b.data.toList.length + 1) (b.data.toList ++ 58 :: t) = b.data.toList ++ [58] := by
            rw [List.take_append, List.take_of_length_le (by omega)]
            simp
          rw [e3] at this
          rw [this, List.take_append_drop]
        · left
          exact ba_ext (List.append_inj_left he hl)
        · exfalso
          have h1 : (b.data.toList ++ 58 :: t)[b.data.toList.length]? = some 58 := by simp
          rw [he, List.getElem?_append_right (by omega)] at h1
          obtain ⟨k, hk⟩ : ∃ k, b.data.toList.length - u.data.toList.length = k + 1 := ⟨b.data.toList.length - u.data.toList.length - 1, by omega⟩
          rw [hk, List.getElem?_cons_succ] at h1
          exact hr (List.mem_of_getElem? h1)
theorem path_good : ∀ (d : Nat) (n : ByteArray), goodB n.data.toList = true → ∀ b ∈ pathF d n, goodB b.data.toList = true
  | 0, n, _, b, h => by simp [pathF] at h
  | d + 1, n, hn, b, h => by
    unfold pathF at h
    rcases List.mem_cons.1 h with rfl | h
    · exact hn
    · cases hp : parentF n with
      | none => rw [hp] at h; simp at h
      | some u =>
        rw [hp] at h
        exact path_good d u (good_up hp) b h
theorem path_last_good : ∀ (d : Nat) (n : ByteArray), n.size < d → goodB n.data.toList = true → (pathF d n).getLast? = some (rootF n)
  | 0, n, h, _ => by omega
  | d + 1, n, hd, hn => by
    unfold pathF
    cases hp : parentF n with
    | none =>
      have := parent_none hn hp
      unfold rootF
      rw [takeWhile_all this]
      rfl
    | some u =>
      have hsz := parent_size hp
      simp only
      rw [root_of_parent hp, List.getLast?_cons, path_last_good d u (by omega) (good_up hp)]
      rfl

/-! ### The path's answers -/
def path7 (s : ByteArray) : List ByteArray := if goodB s.data.toList then pathF 103 s else []
theorem good_size7 {s : ByteArray} (h : goodB s.data.toList = true) : s.size ≤ 102 := by
  unfold goodB at h
  simp only [Bool.and_eq_true, decide_eq_true_eq] at h
  have := h.1
  simpa using this
theorem path7_under (a b : ByteArray) : (path7 a).any (fun x => decide (x = b)) = underF a b := by
  unfold path7 underF
  by_cases ha : goodB a.data.toList = true
  · rw [if_pos ha, ha, Bool.true_and, Bool.eq_iff_iff]
    have hsz := good_size7 ha
    simp only [decide_eq_true_eq, Bool.and_eq_true, Bool.or_eq_true, List.isPrefixOf_iff_prefix, List.any_eq_true, exists_eq_right]
    constructor
    · intro h
      refine ⟨path_good _ _ ha _ h, ?_⟩
      rcases path_prefix _ _ _ h with h | h
      · exact .inl h.symm
      · exact .inr h
    · rintro ⟨_, h | h⟩
      · exact prefix_path_good 103 _ _ (by omega) ha (.inl h.symm)
      · exact prefix_path_good 103 _ _ (by omega) ha (.inr h)
  · rw [if_neg ha]
    simp [ha]
theorem path7_len (s : ByteArray) : (path7 s).length ≤ 103 := by
  unfold path7
  split
  · have h : ∀ (d : Nat) (n : ByteArray), (pathF d n).length ≤ d := by
      intro d
      induction d with
      | zero => intro n; simp [pathF]
      | succ d ih =>
        intro n
        unfold pathF
        cases parentF n with
        | none => simp
        | some u => have := ih u; simp; omega
    exact h _ _
  · simp
theorem path7_second (s : ByteArray) : (path7 s)[1]? = parentF s := by
  unfold path7
  by_cases h : goodB s.data.toList = true
  · rw [if_pos h]
    unfold pathF
    cases hp : parentF s with
    | none => rfl
    | some u =>
      simp only
      have := parent_size hp
      unfold pathF
      simp
  · rw [if_neg h]
    unfold parentF
    rw [if_neg (fun e => h e.1)]
    rfl
theorem path7_last (s : ByteArray) : (path7 s).getLast? = if goodB s.data.toList then some (rootF s) else none := by
  unfold path7
  by_cases h : goodB s.data.toList = true
  · rw [if_pos h, if_pos h]
    exact path_last_good 103 s (by have := good_size7 h; omega) h
  · rw [if_neg h, if_neg h]
    rfl

/-! ### Beginnings ahead of colons -/
def colT (l : List UInt8) : Nat → List ByteArray
  | 0 => []
  | i + 1 => if l[i]? = some 58 then ⟨(l.take i).toArray⟩ :: colT l i else colT l i
theorem colT_succ (l : List UInt8) (i : Nat) : colT l (i + 1) = if l[i]? = some 58 then ⟨(l.take i).toArray⟩ :: colT l i else colT l i := rfl
theorem colT_take (l m : List UInt8) : ∀ i, i ≤ l.length → colT (l ++ m) i = colT l i
  | 0, _ => rfl
  | i + 1, h => by
    rw [colT_succ, colT_succ, List.getElem?_append_left (by omega), List.take_append_of_le_length (by omega), colT_take l m i (by omega)]
theorem colT_none {l r : List UInt8} (h : (58 : UInt8) ∉ r) : ∀ i, i ≤ r.length → colT (l ++ r) (l.length + i) = colT l l.length
  | 0, _ => colT_take l r _ (Nat.le_refl _)
  | i + 1, hi => by
    show colT (l ++ r) (l.length + i + 1) = _
    rw [colT_succ, if_neg, colT_none h i (by omega)]
    intro e
    rw [List.getElem?_append_right (by omega)] at e
    exact h (List.mem_of_getElem? e)
theorem colT_cut {u r : List UInt8} (h : (58 : UInt8) ∉ r) : colT (u ++ 58 :: r) (u ++ 58 :: r).length = ⟨u.toArray⟩ :: colT u u.length := by
  have e : u ++ 58 :: r = (u ++ [58]) ++ r := by simp
  rw [e]
  have h1 := colT_none (l := u ++ [58]) h r.length (Nat.le_refl _)
  rw [List.length_append, h1]
  show colT (u ++ [58]) (u ++ [58]).length = _
  rw [List.length_append]
  show colT (u ++ [58]) (u.length + 1) = _
  rw [colT_succ, if_pos (by simp), List.take_append_of_le_length (Nat.le_refl _), List.take_length, colT_take u [58] _ (Nat.le_refl _)]
theorem colT_free {l : List UInt8} (h : (58 : UInt8) ∉ l) : colT l l.length = [] := by
  have := colT_none (l := []) h l.length (Nat.le_refl _)
  simpa [colT] using this
theorem path_cols : ∀ (d : Nat) (n : ByteArray), n.size < d → goodB n.data.toList = true → pathF d n = n :: colT n.data.toList n.data.toList.length
  | 0, n, h, _ => by omega
  | d + 1, n, hd, hn => by
    unfold pathF
    cases hp : parentF n with
    | none => rw [colT_free (parent_none hn hp)]
    | some u =>
      obtain ⟨r, e, hr⟩ := parent_cut hp
      have hsz := parent_size hp
      simp only
      rw [e, colT_cut hr, path_cols d u (by omega) (good_up hp)]

/-! ### A scan of a name -/
def scanN : Nat → Nat → List UInt8 → Bool
  | p, z, [] => decide (0 < z) && decide (p ≤ 6)
  | p, z, c :: r => if c = 58 then (if z = 0 then false else scanN (p + 1) 0 r)
    else if (z = 0 ∧ ¬ upP c) ∨ ¬ nameP c then false
    else if 16 < z + 1 then false else scanN p (z + 1) r
theorem name58 : ¬ nameP 58 := by decide
theorem up_name {c : UInt8} (h : upP c) : nameP c := .inl h
/-- The part that is being scanned. -/
def goodPre (pre : List UInt8) : Prop := pre.length ≤ 16 ∧ (∀ c ∈ pre, nameP c) ∧ (∀ c r, pre = c :: r → upP c)
theorem part_pre {pre : List UInt8} (h : goodPre pre) : partB pre = decide (0 < pre.length) := by
  rw [Bool.eq_iff_iff, partB_iff, decide_eq_true_eq]
  constructor
  · rintro ⟨_, ⟨c, r, rfl, _⟩, _⟩; simp
  · intro h0
    cases pre with
    | nil => simp at h0
    | cons c r => exact ⟨h.1, ⟨c, r, rfl, h.2.2 c r rfl⟩, h.2.1⟩
theorem split_pre {pre : List UInt8} (h : ∀ c ∈ pre, nameP c) (l : List UInt8) : ∃ q qs, splitC 58 l = q :: qs ∧ splitC 58 (pre ++ l) = (pre ++ q) :: qs := by
  cases hs : splitC 58 l with
  | nil => exact absurd hs (splitC_ne 58 l)
  | cons q qs =>
    refine ⟨q, qs, rfl, ?_⟩
    induction pre with
    | nil => exact hs
    | cons c pre ih =>
      have hc : c ≠ 58 := fun e => name58 (e ▸ h c (by simp))
      have := ih fun x hx => h x (List.mem_cons_of_mem _ hx)
      rw [List.cons_append]
      unfold splitC
      rw [if_neg hc, this]
      rfl
/-- The pieces of what is left, with the part scanned ahead, are parts, and not too many. -/
def restGood (p : Nat) (pre l : List UInt8) : Bool := decide (p + (splitC 58 l).length ≤ 7) && !(splitC 58 (pre ++ l)).any fun q => !partB q
theorem scan_rest : ∀ (l : List UInt8) (p : Nat) (pre : List UInt8), goodPre pre → scanN p pre.length l = restGood p pre l
  | [], p, pre, h => by
    unfold scanN restGood
    obtain ⟨q, qs, h1, h2⟩ := split_pre h.2.1 []
    have e1 : splitC 58 [] = [[]] := rfl
    rw [e1] at h1
    injection h1 with h3 h4
    rw [h2, ← h3, ← h4, e1]
    simp only [List.append_nil, List.any_cons, List.any_nil, Bool.or_false, Bool.not_not, List.length_singleton]
    rw [part_pre h, Bool.and_comm]
    congr 1
    simp only [decide_eq_decide]
    omega
  | c :: r, p, pre, h => by
    unfold scanN
    by_cases hc : c = 58
    · subst hc
      rw [if_pos rfl]
      have e1 := splitC_at r
      have e2 : splitC 58 (pre ++ 58 :: r) = pre :: splitC 58 r := by
        obtain ⟨q, qs, h1, h2⟩ := split_pre h.2.1 (58 :: r)
        rw [e1] at h1
        injection h1 with h3 h4
        rw [h2, ← h3, ← h4, List.append_nil]
      unfold restGood
      rw [e1, e2, List.any_cons, part_pre h]
      by_cases hz : pre.length = 0
      · rw [if_pos hz]
        simp [hz]
      · rw [if_neg hz]
        have h3 := scan_rest r (p + 1) [] ⟨by simp, by simp, by simp⟩
        rw [show ([] : List UInt8).length = 0 from rfl] at h3
        rw [h3]
        unfold restGood
        have h0 : decide (0 < pre.length) = true := decide_eq_true (by omega)
        rw [h0, List.nil_append, List.length_cons]
        simp only [Bool.not_true, Bool.false_or]
        congr 1
        simp only [decide_eq_decide]
        omega
    · rw [if_neg hc]
      have e1 : (splitC 58 (c :: r)).length = (splitC 58 r).length := by
        cases hs : splitC 58 r with
        | nil => exact absurd hs (splitC_ne 58 r)
        | cons q qs => rw [splitC_on hc hs]; rfl
      have e3 : pre ++ c :: r = (pre ++ [c]) ++ r := by simp
      have bad : ∀ (h5 : partB (pre ++ c :: (splitC 58 r).headD []) = false), restGood p pre (c :: r) = false := fun h5 => by
        unfold restGood
        have : splitC 58 (pre ++ c :: r) = (pre ++ c :: (splitC 58 r).headD []) :: (splitC 58 r).tail := by
          obtain ⟨q, qs, h1, h2⟩ := split_pre h.2.1 (c :: r)
          rw [h2]
          cases hs : splitC 58 r with
          | nil => exact absurd hs (splitC_ne 58 r)
          | cons q2 qs2 =>
            rw [splitC_on hc hs] at h1
            injection h1 with h6 h7
            rw [← h6, ← h7]
            rfl
        rw [this, List.any_cons, h5]
        simp
      by_cases hb : (pre.length = 0 ∧ ¬ upP c) ∨ ¬ nameP c
      · rw [if_pos hb]
        refine (bad ?_).symm
        rw [Bool.eq_false_iff]
        intro hp
        obtain ⟨_, ⟨c', r', e, hu⟩, hn⟩ := (partB_iff _).1 hp
        rcases hb with ⟨h0, hu'⟩ | hn'
        · have : pre = [] := List.eq_nil_of_length_eq_zero h0
          subst this
          rw [List.nil_append] at e
          injection e with e4 _
          exact hu' (e4 ▸ hu)
        · exact hn' (hn c (by simp))
      · rw [if_neg hb]
        have hn : nameP c := Decidable.byContradiction fun hx => hb (.inr hx)
        by_cases hz : 16 < pre.length + 1
        · rw [if_pos hz]
          refine (bad ?_).symm
          rw [Bool.eq_false_iff]
          intro hp
          have := ((partB_iff _).1 hp).1
          rw [List.length_append, List.length_cons] at this
          omega
        · rw [if_neg hz]
          have hpre : goodPre (pre ++ [c]) := by
            refine ⟨by rw [List.length_append]; simp; omega, fun x hx => ?_, fun x rr e => ?_⟩
            · rcases List.mem_append.1 hx with hx | hx
              · exact h.2.1 x hx
              · rw [List.mem_singleton] at hx; exact hx ▸ hn
            · cases pre with
              | nil =>
                rw [List.nil_append] at e
                injection e with e4 _
                subst e4
                exact Decidable.byContradiction fun hx => hb (.inl ⟨rfl, hx⟩)
              | cons y ys =>
                rw [List.cons_append] at e
                injection e with e4 _
                exact e4 ▸ h.2.2 y ys rfl
          have h3 := scan_rest r p (pre ++ [c]) hpre
          rw [List.length_append, List.length_singleton] at h3
          rw [h3]
          unfold restGood
          rw [e3, e1]
theorem split_sum : ∀ (l : List UInt8), l.length + 1 = ((splitC 58 l).map (·.length)).sum + (splitC 58 l).length
  | [] => by simp [splitC]
  | c :: r => by
    have ih := split_sum r
    by_cases hc : c = 58
    · have e : splitC 58 (c :: r) = [] :: splitC 58 r := hc ▸ splitC_at r
      rw [e]
      simp
      omega
    · cases hs : splitC 58 r with
      | nil => exact absurd hs (splitC_ne 58 r)
      | cons q qs =>
        have e := splitC_on hc hs
        rw [hs] at ih
        rw [e]
        simp at *
        omega
theorem sum_le16 : ∀ (ps : List (List UInt8)), (∀ q ∈ ps, q.length ≤ 16) → (ps.map (·.length)).sum ≤ 16 * ps.length
  | [], _ => by simp
  | p :: ps, h => by
    have h1 := h p (by simp)
    have h2 := sum_le16 ps fun q hq => h q (List.mem_cons_of_mem _ hq)
    simp
    omega
theorem scan_good (l : List UInt8) : scanN 1 0 l = goodB l := by
  have h := scan_rest l 1 [] ⟨by simp, by simp, by simp⟩
  rw [show ([] : List UInt8).length = 0 from rfl] at h
  rw [h]
  unfold restGood goodB
  rw [List.nil_append]
  by_cases hp : (splitC 58 l).any (fun q => !partB q) = true
  · rw [hp]; simp
  · by_cases h6 : (splitC 58 l).length ≤ 6
    · have hs := split_sum l
      have hl := sum_le16 (splitC 58 l) fun q hq => by
        have : partB q = true := by
          simp only [List.any_eq_true, not_exists, not_and, Bool.not_eq_true', Bool.not_eq_false] at hp
          exact hp q hq
        exact ((partB_iff q).1 this).1
      rw [decide_eq_true (by omega : 1 + (splitC 58 l).length ≤ 7), decide_eq_true (by omega : l.length ≤ 102), decide_eq_true h6, Bool.true_and, Bool.true_and]
    · rw [decide_eq_false (by omega : ¬ 1 + (splitC 58 l).length ≤ 7), decide_eq_false h6]
      simp
end Go.Proofs.YtplocldnklccfaaGreatDoor
namespace Go.Proofs.YtplocldnklccfaaGreatDoor
open Go.RowKit Go.Shelf
set_option linter.unusedVariables false
set_option linter.unusedSimpArgs false

theorem cut_colon (l : List UInt8) : (Lib.cut l [58]).1 = l.takeWhile (fun c => decide (c ≠ 58)) := by
  have key : ∀ l : List UInt8, (Lib.index l [58] = -1 ∧ l.takeWhile (fun c => decide (c ≠ 58)) = l) ∨ ∃ i : Nat, Lib.index l [58] = i ∧ l.take i = l.takeWhile (fun c => decide (c ≠ 58)) := by
    intro l
    induction l with
    | nil => exact .inl ⟨rfl, rfl⟩
    | cons b r ih =>
      by_cases hb : b = 58
      · subst hb
        exact .inr ⟨0, by simp [Lib.index], by simp⟩
      · have hp : ([58] : List UInt8).isPrefixOf (b :: r) = false := by
          simp [List.isPrefixOf, Ne.symm hb]
        have ht : (b :: r).takeWhile (fun c => decide (c ≠ 58)) = b :: r.takeWhile (fun c => decide (c ≠ 58)) := by simp [List.takeWhile_cons, hb]
        have hi : Lib.index (b :: r) [58] = if Lib.index r [58] == -1 then -1 else Lib.index r [58] + 1 := by
          rw [Lib.index, hp]
          simp
        rw [ht, hi]
        rcases ih with ⟨h1, h2⟩ | ⟨i, h1, h2⟩
        · left
          rw [h1, h2]
          exact ⟨by simp, rfl⟩
        · right
          refine ⟨i + 1, ?_, by simp [h2]⟩
          rw [h1, if_neg (by simp)]
          rfl
  unfold Lib.cut
  rcases key l with ⟨h1, h2⟩ | ⟨i, h1, h2⟩
  · rw [h1, if_neg (by omega), h2]
  · rw [h1, if_pos (by omega), ← h2]
    simp

def rootG (s : ByteArray) : ByteArray := if goodB s.data.toList then rootF s else ⟨#[]⟩
def pathG (s : ByteArray) : List ByteArray := if goodB s.data.toList then pathF 103 s else []

theorem Root_any (s : ByteArray) (w : World) (hs : s.size ≤ 140737488355328) (hm : ∃ m, w.cell? ⟨0, 0, none⟩ = some (.int .i64 m)) (h0 : 0 < w.heap.size) :
    Calls Tryz.prog 12 #[.string s] w fun e w' => e = .returned (.string (rootG s)) ∧ Below w.heap.size w w' := by
  have hg := Good_any s w (by unfold maxLen; omega)
  unfold rootG
  cases hb : goodB s.data.toList with
  | false =>
    rw [hb] at hg
    clear hb
    go_enter Tryz.func12, Tryz.ntmps12
    go_wp2_with (go_at_call 6; refine hg.mono ?_; rintro e w' ⟨rfl, hbel⟩)
    go_ret
    exact ⟨rfl, hbel⟩
  | true =>
    have hsz := good_size hb
    rw [hb] at hg
    clear hb
    have hc : ∀ W, Below w.heap.size w W → Calls Tryz.prog 28 #[.string s, .string ⟨#[58]⟩] W fun e w' => ∃ b r, e = .returned (.tuple #[.string (rootF s), .string b, .bool r]) ∧ Below W.heap.size W w' := fun W hb => by
      obtain ⟨m, hm⟩ := hm
      refine (Tryz.strings_Cut s ⟨#[58]⟩ m W (by omega) ((hb.cell (p := ⟨0, 0, none⟩) h0).trans hm)).mono ?_
      rintro e w' ⟨rfl, n, rfl⟩
      refine ⟨⟨(Lib.cut s.data.toList [58]).2.1.toArray⟩, (Lib.cut s.data.toList [58]).2.2, ?_, ⟨rfl, rfl, rfl, Nat.le_refl _, fun _ _ => rfl⟩⟩
      show Ending.returned (.tuple #[.string ⟨(Lib.cut s.data.toList [58]).1.toArray⟩, _, _]) = _
      rw [cut_colon]
      rfl
    clear hm
    simp only [if_true]
    go_enter Tryz.func12, Tryz.ntmps12
    go_wp2_with (first
      | (go_at_call 6; refine hg.mono ?_; rintro e w1 ⟨rfl, hb1⟩; have hc1 := hc w1 hb1)
      | (go_at_call 28; refine hc1.mono ?_; rintro e w2 ⟨b, r, rfl, hb2⟩))
    go_ret
    exact ⟨rfl, hb1.trans (hb2.mono hb1.size)⟩

theorem hasPrefix_join (a b : ByteArray) : Lib.hasPrefix a.data.toList (b ++ ⟨#[58]⟩ : ByteArray).data.toList = (b.data.toList ++ [58]).isPrefixOf a.data.toList := by
  unfold Lib.hasPrefix
  congr 1

theorem Under_any (a b : ByteArray) (w : World) (ha : a.size ≤ 140737488355328) (hb : b.size ≤ 140737488355328) :
    Calls Tryz.prog 8 #[.string a, .string b] w fun e w' => e = .returned (.bool (underF a b)) ∧ Below w.heap.size w w' := by
  have hg1 := Good_any a w (by unfold maxLen; omega)
  have hg2 := fun W => Good_any b W (by unfold maxLen; omega)
  have hp := fun W => Tryz.strings_HasPrefix a (b ++ ⟨#[58]⟩) W
  simp only [hasPrefix_join] at hp
  unfold underF
  cases h1 : goodB a.data.toList with
  | false =>
    rw [h1] at hg1
    clear h1 hp hg2
    go_enter Tryz.func8, Tryz.ntmps8
    go_wp2_with (go_at_call 6; refine hg1.mono ?_; rintro e w1 ⟨rfl, hb1⟩)
    go_ret
    exact ⟨rfl, hb1⟩
  | true =>
    rw [h1] at hg1
    clear h1
    cases h2 : goodB b.data.toList with
    | false =>
      simp only [h2] at hg2
      clear h2 hp
      go_enter Tryz.func8, Tryz.ntmps8
      go_wp2_with (first
        | (go_at_call 6; refine hg1.mono ?_; clear hg1; rintro e w1 ⟨rfl, hb1⟩)
        | (go_at_call 6; refine (hg2 _).mono ?_; rintro e w2 ⟨rfl, hb2⟩))
      go_ret
      exact ⟨rfl, hb1.trans (hb2.mono hb1.size)⟩
    | true =>
      simp only [h2] at hg2
      clear h2
      by_cases hab : a = b
      · subst hab
        rw [decide_eq_true rfl]
        clear hp
        go_enter Tryz.func8, Tryz.ntmps8
        go_wp2_with (first
          | (go_at_call 6; refine hg1.mono ?_; clear hg1; rintro e w1 ⟨rfl, hb1⟩)
          | (go_at_call 6; refine (hg2 _).mono ?_; rintro e w2 ⟨rfl, hb2⟩))
        go_ret
        exact ⟨rfl, hb1.trans (hb2.mono hb1.size)⟩
      · rw [decide_eq_false hab]
        obtain ⟨R, hR⟩ : ∃ R, R = (b.data.toList ++ [58]).isPrefixOf a.data.toList := ⟨_, rfl⟩
        simp only [← hR] at hp ⊢
        clear hR
        have ec : (a.toList == b.toList) = false := by
          rw [beq_eq_false_iff_ne]
          intro e
          exact hab (ByteArray.ext (by simpa [ByteArray.toList_eq] using e))
        clear hab
        go_enter Tryz.func8, Tryz.ntmps8
        go_wp2_with (first
          | (go_at_call 6; refine hg1.mono ?_; clear hg1; rintro e w1 ⟨rfl, hb1⟩)
          | (go_at_call 6; refine (hg2 _).mono ?_; rintro e w2 ⟨rfl, hb2⟩)
          | (go_at_call 26; refine (hp _).mono ?_; rintro e w3 ⟨rfl, hw3⟩; subst hw3))
        go_simp
        go_wp2
        go_ret
        exact ⟨by simp, hb1.trans (hb2.mono hb1.size)⟩

theorem path_len : ∀ (d : Nat) (n : ByteArray), (pathF d n).length ≤ d
  | 0, n => by simp [pathF]
  | d + 1, n => by
    unfold pathF
    cases parentF n with
    | none => simp
    | some u => have := path_len d u; simp; omega

def restOf : Option ByteArray → List ByteArray
  | none => []
  | some u => pathF 103 u

theorem restOf_some (u : ByteArray) : restOf (some u) = pathF 103 u := by simp only [restOf]

/-- Between two rounds of Path. -/
structure PathInv (w : World) (s : ByteArray) (v up is : Value) (wr : World) (pre : List ByteArray) (o : Option ByteArray) : Prop where
  row : wr.ownsRow w.heap.size 9 1 v pre.length (pre.map Value.string)
  upv : up = .string (o.getD ⟨#[]⟩)
  isv : is = .bool o.isSome
  eq : pre ++ restOf o = pathF 103 s
  lt : ∀ u, o = some u → u.size ≤ 101
  bel : Below w.heap.size w wr

theorem own_one {w1 w2 : World} {base : Nat} (s : ByteArray) (t : TypeId) (hb : base ≤ w1.heap.size) (h : Below (w1.alloc (.cells #[.string s] t)).heap.size (w1.alloc (.cells #[.string s] t)) w2) :
    w2.ownsRow base t 1 (.slice (some ⟨w1.heap.size, 0, none⟩) 1 1) [s].length ([s].map Value.string) :=
  ⟨rfl, .inr ⟨w1.heap.size, 1, #[.string s], rfl, hb, (h.block _ (by simp)).trans (World.alloc_heap_new w1 _), Nat.le_refl _, by unfold maxLen; omega, rfl, rfl⟩⟩
def upSize (up is : Value) : Nat := match up, is with
  | .string u, .bool true => u.size + 1
  | _, _ => 0

theorem path_unfold {u : ByteArray} (h : u.size ≤ 102) : pathF 103 u = u :: restOf (parentF u) := by
  conv => lhs; unfold pathF
  cases hp : parentF u with
  | none => rfl
  | some x =>
    have := parent_size hp
    simp only
    rw [path_more 102 103 x (by omega) (by omega)]
    rfl

set_option maxRecDepth 100000 in
set_option maxHeartbeats 1000000 in
theorem Path_any (s : ByteArray) (w : World) (hs : s.size ≤ 140737488355328) :
    Calls Tryz.prog 14 #[.string s] w fun e w' => ∃ v, e = .returned v ∧ w'.ownsRow w.heap.size 9 1 v (pathG s).length ((pathG s).map Value.string) ∧ Below w.heap.size w w' := by
  have hg := Good_any s w (by unfold maxLen; omega)
  unfold pathG
  cases hb : goodB s.data.toList with
  | false =>
    rw [hb] at hg
    clear hb
    go_enter Tryz.func14, Tryz.ntmps14
    go_wp2_with (go_at_call 6; refine hg.mono ?_; rintro e w' ⟨rfl, hbel⟩)
    go_ret
    exact ⟨_, rfl, World.ownsRow_nil _ _ _ _, hbel⟩
  | true =>
    obtain ⟨i0, hi, hz0, hz1, hz2⟩ := info_parts info_str
    have hsz := good_size hb
    rw [hb] at hg
    clear hb
    simp only [if_true]
    have hpar := fun (u : ByteArray) (h : u.size ≤ 102) (W : World) => Parent_any u W (by omega)
    have hp0 := fun W => hpar s hsz W
    have HPAR := Lib.hid hpar
    clear hpar
    have hpf := path_unfold hsz
    have HPF := Lib.hid hpf
    clear hpf
    have hlt0 : ∀ u, parentF s = some u → u.size ≤ 101 := fun u hu => by have := parent_size hu; omega
    have HLT := Lib.hid hlt0
    clear hlt0
    go_enter Tryz.func14, Tryz.ntmps14
    go_wp2_with (first
      | (go_at_call 6; refine hg.mono ?_; rintro e w1 ⟨rfl, hb1⟩; have HB1 := Lib.hid hb1; clear hb1)
      | (go_at_call 10; refine (hp0 _).mono ?_; rintro e w2 ⟨rfl, hb2⟩; have HB2 := Lib.hid hb2; clear hb2))
    go_loopw [3, 4, 5] (fun v up is wr => ∃ pre o, PathInv w s v up is wr pre o) (fun _ up is _ => upSize up is)
    case atStart => exact ⟨[s], parentF s, ⟨own_one s _ HB1.out.size HB2.out, rfl, rfl, HPF.out.symm, HLT.out, (HB1.out.alloc HB1.out.size _).trans (HB2.out.mono (by have := HB1.out.size; simp; omega))⟩⟩
    case round =>
      obtain ⟨pre, o, ⟨hrow, rfl, rfl, heq, hlt, hbel⟩⟩ := hrel
      cases o with
      | none =>
        go_wp2
        go_ret
        have heq' : pre = pathF 103 s := by rw [← heq]; exact (List.append_nil pre).symm
        rw [← heq']
        exact ⟨_, rfl, hrow, hbel⟩
      | some u =>
        have hu := hlt u rfl
        have hpu := fun W => HPAR.out u (by omega) W
        have hlen : pre.length ≤ 102 := by
          have h1 := path_len 103 s
          rw [← heq, List.length_append] at h1
          have h2 : 1 ≤ (restOf (some u)).length := by show 1 ≤ (pathF 103 u).length; rw [path_unfold (by omega)]; simp
          omega
        have HEQ := Lib.hid heq
        have HO := Lib.hid hrow
        clear heq hrow hlt
        simp only [Option.getD_some, Option.isSome_some]
        go_wp2_with (first
          | (at_builtin; refine wpList_append_own _ rfl _ _ 50 rfl w.heap.size 9 i0 (.string ByteArray.empty) 1 16 Tryz.underlying50 hi hz0 hz1 hz2 rfl (by decide) _ _ _ rfl (HO.out.alloc _) ⟨wr.heap.size, 0, none⟩ 1 1 [.string u] rfl rfl (cell_one_new _ _ _) (by simp [Value.oneCell']) (by unfold maxLen; omega) (by omega) (by have := hbel.size; simp; omega) ?_; intro v' w1 hown' hgrow _; have HO1 := Lib.hid hown'; have hb1 : Below w.heap.size w w1 := (hbel.alloc hbel.size _).grown hgrow (by have := hbel.size; simp; omega) fun k' hk' => (HO.out.lt k' hk').1; clear hown' hgrow)
          | (go_at_call 10; refine (hpu _).mono ?_; rintro e w2 ⟨rfl, hb2⟩; have HB2' := Lib.hid hb2; clear hb2))
        refine ⟨⟨pre ++ [u], parentF u, ⟨?_, rfl, rfl, ?_, fun x hx => ?_, hb1.trans (HB2'.out.mono hb1.size)⟩⟩, ?_⟩
        · have h1 := HO1.out
          have h2 : w2.ownsRow w.heap.size 9 1 v' (pre.length + 1) (pre.map Value.string ++ [.string u]) := ownsRow_keep h1 fun k e => HB2'.out.block k (h1.lt k e).2
          simpa using h2
        · rw [← HEQ.out, List.append_assoc, restOf_some, path_unfold (Nat.le_succ_of_le hu), List.singleton_append]
        · have := parent_size hx; omega
        · cases hp : parentF u with
          | none => show 0 < u.size + 1; omega
          | some x => have := parent_size hp; show x.size + 1 < u.size + 1; omega
end Go.Proofs.YtplocldnklccfaaGreatDoor
namespace Go.Proofs.YtplocldnklccfaaGreatDoor
open Go.RowKit
set_option linter.unusedVariables false
set_option linter.unusedSimpArgs false

/-- An account's place by its name. -/
def atF (L : List Acct) (n : ByteArray) : Int := match L.findIdx? fun a => decide (a.name = n) with | some i => (i : Int) | none => -1

theorem at_cases (L : List Acct) (n : ByteArray) : (atF L n = -1 ∧ findA L n = none ∧ ∀ j (hj : j < L.length), L[j].name ≠ n) ∨
    ∃ k, ∃ hk : k < L.length, atF L n = (k : Int) ∧ findA L n = some L[k] ∧ L[k].name = n ∧ ∀ j (hj : j < L.length), j < k → L[j].name ≠ n := by
  unfold atF
  cases h : L.findIdx? fun a => decide (a.name = n) with
  | none =>
    rw [List.findIdx?_eq_none_iff] at h
    have h' : ∀ x ∈ L, x.name ≠ n := fun x hx => by simpa using h x hx
    refine .inl ⟨rfl, ?_, fun j hj => h' _ (List.getElem_mem hj)⟩
    unfold findA
    rw [List.find?_eq_none]
    intro x hx
    simpa using h' x hx
  | some k =>
    rw [List.findIdx?_eq_some_iff_getElem] at h
    obtain ⟨hk, h1, h2⟩ := h
    have h1' : L[k].name = n := by simpa using h1
    have h2' : ∀ j (hj : j < L.length), j < k → L[j].name ≠ n := fun j hj hjk => by simpa using h2 j hjk
    refine .inr ⟨k, hk, rfl, ?_, h1', h2'⟩
    unfold findA
    rw [List.find?_eq_some_iff_getElem]
    refine ⟨by simpa using h1', k, hk, rfl, fun j hj => ?_⟩
    simpa using h2' j (by omega) hj
theorem at_none {L : List Acct} {n : ByteArray} (h : ∀ j (hj : j < L.length), L[j].name ≠ n) : atF L n = -1 := by
  rcases at_cases L n with ⟨h1, _⟩ | ⟨k, hk, _, _, h2, _⟩
  · exact h1
  · exact absurd h2 (h k hk)
theorem at_some {L : List Acct} {n : ByteArray} {k : Nat} (hk : k < L.length) (h : L[k].name = n) (hno : ∀ j (hj : j < L.length), j < k → L[j].name ≠ n) : atF L n = (k : Int) := by
  rcases at_cases L n with ⟨_, _, h1⟩ | ⟨i, hi, e, _, h2, h3⟩
  · exact absurd h (h1 k hk)
  · have : i = k := by
      rcases Nat.lt_trichotomy i k with h4 | h4 | h4
      · exact absurd h2 (hno i hi h4)
      · exact h4
      · exact absurd h (h3 k hk h4)
    rw [e, this]

theorem bytesLess_cmp (a b : ByteArray) : Op.bytesLess a.toList b.toList = decide (cmpB a b < 0) := by
  have key : ∀ x y : List UInt8, Op.bytesLess x y = decide (Lib.compareBytes x y < 0) := by
    intro x
    induction x with
    | nil => intro y; cases y <;> simp [Lib.compareBytes, Op.bytesLess]
    | cons c r ih =>
      intro y
      cases y with
      | nil => simp [Lib.compareBytes, Op.bytesLess]
      | cons d q =>
        unfold Lib.compareBytes Op.bytesLess
        by_cases h1 : c < d
        · simp [h1]
        · by_cases h2 : d < c
          · have hne : c ≠ d := fun e => by subst e; exact h1 h2
            simp [h1, h2, hne]
          · have e : c = d := by
              apply UInt8.toNat_inj.1
              simp [UInt8.lt_iff_toNat_lt] at h1 h2
              omega
            subst e
            simp [ih q]
  rw [Lib.toList_data, Lib.toList_data]
  exact key _ _

/-- Whom the reference's Kids tells. -/
def refKids (L : List Acct) (name : ByteArray) : List Acct := L.filter fun a => decide ((parentF a.name).getD ⟨#[]⟩ = name)
theorem good_ne {u : ByteArray} (h : goodB u.data.toList = true) : u.toList.isEmpty = false := by
  rw [Lib.toList_data]
  cases hu : u.data.toList with
  | nil => rw [hu] at h; revert h; decide
  | cons c r => rfl
theorem refKids_eq {L : List Acct} (hv : Valid L) (name : ByteArray) : refKids L name = kidsL L name := by
  unfold refKids kidsL
  by_cases he : name.toList.isEmpty = true
  · rw [if_pos he]
    have hn : name = ⟨#[]⟩ := by
      rw [Lib.toList_data] at he
      exact ba_ext (by simpa using he)
    unfold rootsA
    apply List.filter_congr
    intro a ha
    rw [decide_eq_decide]
    cases hp : parentF a.name with
    | none => simp [hn]
    | some u =>
      have hu := good_ne (good_up hp)
      constructor
      · intro h
        rw [← show u = name from h] at he
        rw [hu] at he
        cases he
      · intro h; cases h
  · rw [if_neg he]
    have key : (L.filter fun a => decide ((parentF a.name).getD ⟨#[]⟩ = name)) = kidsA L name := by
      unfold kidsA
      apply List.filter_congr
      intro a ha
      rw [decide_eq_decide]
      cases hp : parentF a.name with
      | none =>
        constructor
        · intro h
          exfalso
          apply he
          rw [← show (⟨#[]⟩ : ByteArray) = name from h, Lib.toList_data]
          rfl
        · intro h; cases h
      | some u => simp
    rw [key]
    cases hf : findA L name with
    | some a => simp only [(findA_some hf).2]
    | none =>
      unfold kidsA
      rw [List.filter_eq_nil_iff]
      intro a ha h
      obtain ⟨p, hp, e, _⟩ := hv.up a ha name (by simpa using h)
      exact find_none hf p hp e

/-- The reference's Open: those below, the new one, those above. -/
def refIns (a : Acct) (L : List Acct) : List Acct := (L.filter fun b => decide (cmpB b.name a.name < 0)) ++ [a] ++ L.filter fun b => decide (cmpB a.name b.name < 0)
theorem filter_none {α : Type} {p : α → Bool} {l : List α} (h : ∀ x ∈ l, p x = false) : l.filter p = [] := by
  rw [List.filter_eq_nil_iff]
  intro x hx
  simp [h x hx]
theorem filter_all {α : Type} {p : α → Bool} {l : List α} (h : ∀ x ∈ l, p x = true) : l.filter p = l := by
  rw [List.filter_eq_self]
  exact h
theorem refIns_eq {a : Acct} : ∀ {L : List Acct}, Rising L → findA L a.name = none → refIns a L = insA a L
  | [], _, _ => rfl
  | b :: r, hr, hf => by
    have hr' : Rising r := hr.of_cons
    have hb : ∀ x ∈ r, cmpB b.name x.name < 0 := fun x hx => List.rel_of_pairwise_cons hr hx
    have hne := find_none hf
    have hfr : findA r a.name = none := by
      unfold findA
      rw [List.find?_eq_none]
      intro x hx
      simpa using hne x (List.mem_cons_of_mem _ hx)
    rw [insA_cons]
    by_cases h : cmpB b.name a.name < 0
    · have h2 : ¬ cmpB a.name b.name < 0 := fun h3 => by have := cmp_trans h h3; rw [cmp_self] at this; omega
      rw [if_pos h, ← refIns_eq hr' hfr]
      unfold refIns
      simp [h, h2]
    · have h2 : cmpB a.name b.name < 0 := by
        rcases cmp_total (hne b (List.mem_cons_self ..)) with h3 | h3
        · exact absurd h3 h
        · exact h3
      have e1 : (r.filter fun x => decide (cmpB x.name a.name < 0)) = [] := filter_none fun x hx => by
        have := cmp_trans h2 (hb x hx)
        rw [decide_eq_false_iff_not]
        intro h3
        have := cmp_trans this h3
        rw [cmp_self] at this
        omega
      have e2 : (r.filter fun x => decide (cmpB a.name x.name < 0)) = r := filter_all fun x hx => by simpa using cmp_trans h2 (hb x hx)
      rw [if_neg h]
      unfold refIns
      simp [h, h2, e1, e2]

/-- What the reference's Close looks at. -/
def refUse (L : List Acct) (name : ByteArray) (i : Nat) : Bool := (List.range L.length).any fun k => match L[k]? with | some b => underF b.name name && decide (k ≠ i) && !b.closed | none => false
theorem kid_under {L : List Acct} (hv : Valid L) {a b : Acct} (ha : a ∈ L) (hb : b ∈ kidsA L a.name) : underF b.name a.name = true := by
  obtain ⟨hbL, hp⟩ := List.mem_filter.1 hb
  have hp : parentF b.name = some a.name := by simpa using hp
  obtain ⟨r, e, _⟩ := parent_cut hp
  unfold underF
  rw [hv.good b hbL, hv.good a ha]
  simp only [Bool.true_and, Bool.or_eq_true, decide_eq_true_eq]
  right
  rw [List.isPrefixOf_iff_prefix]
  exact ⟨r, by rw [e]; simp⟩
/-- One that is below another has a parent that is the other or below it. -/
theorem under_step {n m : ByteArray} (hne : n ≠ m) (h : underF n m = true) : ∃ u, parentF n = some u ∧ underF u m = true := by
  rw [← path7_under, List.any_eq_true] at h
  obtain ⟨x, hx, e⟩ := h
  have e : x = m := by simpa using e
  subst e
  unfold path7 at hx
  split at hx
  · rename_i hg
    have hsz := good_size7 hg
    rw [path_unfold hsz] at hx
    rcases List.mem_cons.1 hx with h | h
    · exact absurd h.symm hne
    · cases hp : parentF n with
      | none => rw [hp] at h; cases h
      | some u =>
        rw [hp, restOf_some] at h
        refine ⟨u, rfl, ?_⟩
        rw [← path7_under, List.any_eq_true]
        refine ⟨x, ?_, by simp⟩
        unfold path7
        rw [if_pos (good_up hp)]
        exact h
  · cases hx
theorem under_closed {L : List Acct} (hv : Valid L) {a : Acct} (ha : a ∈ L) (hk : ∀ b ∈ kidsA L a.name, b.closed = true) : ∀ (d : Nat) (b : Acct), b.name.size < d → b ∈ L → b.name ≠ a.name → underF b.name a.name = true → b.closed = true
  | 0, b, hd, _, _, _ => absurd hd (by omega)
  | d + 1, b, hd, hb, hne, hu => by
    obtain ⟨u, hp, hu'⟩ := under_step hne hu
    obtain ⟨p, hpL, rfl, _, _, hc⟩ := hv.up b hb u hp
    by_cases he : p.name = a.name
    · exact hk b (List.mem_filter.2 ⟨hb, by rw [hp, he]; simp⟩)
    · exact hc (under_closed hv ha hk d p (by have := parent_size hp; omega) hpL he hu')
theorem refUse_eq {L : List Acct} (hv : Valid L) {i : Nat} (hi : i < L.length) : refUse L L[i].name i = !(kidsA L L[i].name).all (·.closed) := by
  have ha : L[i] ∈ L := List.getElem_mem hi
  rw [Bool.eq_iff_iff, Bool.not_eq_true', List.all_eq_false]
  unfold refUse
  rw [List.any_eq_true]
  constructor
  · rintro ⟨k, hk, h⟩
    have hk : k < L.length := by simpa using hk
    rw [List.getElem?_eq_getElem hk] at h
    simp only [Bool.and_eq_true, decide_eq_true_eq, Bool.not_eq_true'] at h
    obtain ⟨⟨h1, h2⟩, h3⟩ := h
    by_cases hall : ∀ b ∈ kidsA L L[i].name, b.closed = true
    · have hne : L[k].name ≠ L[i].name := fun e => by
        have := hv.rising.nodup
        have e2 := hv.rising.inj (List.getElem_mem hk) ha e
        exact h2 ((List.getElem_inj this).1 e2)
      have := under_closed hv ha hall (L[k].name.size + 1) L[k] (by omega) (List.getElem_mem hk) hne h1
      rw [h3] at this
      cases this
    · simpa using hall
  · rintro ⟨b, hb, hc⟩
    obtain ⟨hbL, hp⟩ := List.mem_filter.1 hb
    obtain ⟨k, hk, rfl⟩ := List.getElem_of_mem hbL
    refine ⟨k, by simpa using hk, ?_⟩
    rw [List.getElem?_eq_getElem hk]
    simp only [Bool.and_eq_true, decide_eq_true_eq, Bool.not_eq_true']
    refine ⟨⟨kid_under hv ha hb, fun e => ?_⟩, by simpa using hc⟩
    subst e
    have := parent_size (show parentF L[k].name = some L[k].name by simpa using hp)
    omega
end Go.Proofs.YtplocldnklccfaaGreatDoor
namespace Go.Proofs.YtplocldnklccfaaGreatDoor
open Go.RowKit
set_option linter.unusedVariables false
set_option linter.unusedSimpArgs false

/-- A slice of things of s cells each, to be read; its blocks are of R. -/
structure RowAt (w : World) (R : Nat → Prop) (s : Nat) (v : Value) (xs : List (List Value)) : Prop where
  ex : ∃ (A : Option Addr) (c : Nat), v = .slice A xs.length c ∧ ∀ j (hj : j < xs.length), ∃ ad, A = some ad ∧ ad.block < w.heap.size ∧ R ad.block ∧ ∀ i u, xs[j][i]? = some u → w.cell? ((ad.add (j * s)).add i) = some u

theorem RowAt.keep {w w' : World} {R R' : Nat → Prop} {s : Nat} {v : Value} {xs : List (List Value)} (h : RowAt w R s v xs) (hk : ∀ k, R k → k < w.heap.size → w'.heap[k]? = w.heap[k]? ∧ R' k) : RowAt w' R' s v xs := by
  obtain ⟨A, c, hv, hx⟩ := h
  refine ⟨A, c, hv, fun j hj => ?_⟩
  obtain ⟨ad, e1, h1, h2, h3⟩ := hx j hj
  obtain ⟨k1, k2⟩ := hk _ h2 h1
  have hl : ad.block < w'.heap.size := by
    have h4 : w.heap[ad.block]? = some (w.heap[ad.block]'h1) := Array.getElem?_eq_getElem h1
    exact heap_lt (k1.trans h4)
  refine ⟨ad, e1, hl, k2, fun i u hu => ?_⟩
  rw [← h3 i u hu]
  exact World.cell?_of_block (by rw [block_add, block_add]; exact k1)
theorem RowAt.below {w w' : World} {R : Nat → Prop} {s : Nat} {v : Value} {xs : List (List Value)} (h : RowAt w R s v xs) (hb : Below w.heap.size w w') : RowAt w' R s v xs :=
  h.keep fun k hR hk => ⟨hb.block k hk, hR⟩
theorem RowAt.mono {w : World} {R R' : Nat → Prop} {s : Nat} {v : Value} {xs : List (List Value)} (h : RowAt w R s v xs) (hk : ∀ k, R k → R' k) : RowAt w R' s v xs :=
  h.keep fun k hR _ => ⟨rfl, hk k hR⟩
theorem RowAt.ch {w w' : World} {R F : Nat → Prop} {s : Nat} {v : Value} {xs : List (List Value)} (h : RowAt w R s v xs) (hc : Ch F w w') (hd : ∀ k, R k → ¬ F k) : RowAt w' R s v xs :=
  h.keep fun k hR hk => ⟨hc.block k hk (hd k hR), hR⟩
theorem RowAt.nil (w : World) (R : Nat → Prop) (s : Nat) : RowAt w R s (.slice none 0 0) [] := ⟨none, 0, rfl, fun j hj => by simp at hj⟩

theorem flat_get {s : Nat} : ∀ (xs : List (List Value)), (∀ x ∈ xs, x.length = s) → ∀ j (hj : j < xs.length) i u, xs[j][i]? = some u → xs.flatten[j * s + i]? = some u
  | [], _, j, hj, _, _, _ => by simp at hj
  | x :: xs, hs, 0, _, i, u, hu => by
    have hi : i < x.length := (List.getElem?_eq_some_iff.1 hu).1
    rw [List.flatten_cons, List.getElem?_append_left (by simpa using hi)]
    simpa using hu
  | x :: xs, hs, j + 1, hj, i, u, hu => by
    have hx : x.length = s := hs x (by simp)
    rw [List.flatten_cons, List.getElem?_append_right (by rw [hx]; have : (j + 1) * s = j * s + s := Nat.succ_mul _ _; omega)]
    have e : (j + 1) * s + i - x.length = j * s + i := by rw [hx]; have : (j + 1) * s = j * s + s := Nat.succ_mul _ _; omega
    rw [e]
    exact flat_get xs (fun y hy => hs y (by simp [hy])) j (by simpa using hj) i u (by simpa using hu)

/-- What is owned can be read. -/
theorem RowAt.of_own {w : World} {B e s : Nat} {v : Value} {xs : List (List Value)} {R : Nat → Prop} (h : w.ownsRow B e s v xs.length xs.flatten) (hs : ∀ x ∈ xs, x.length = s) (hR : ∀ k, v.ownBlock = some k → R k) : RowAt w R s v xs := by
  rcases h.2 with ⟨hv, h0⟩ | ⟨g, cap, cur, hv, hb, hg, r⟩
  · refine ⟨none, 0, by rw [hv, h0], fun j hj => by omega⟩
  · refine ⟨some ⟨g, 0, none⟩, cap, hv, fun j hj => ⟨_, rfl, heap_lt hg, hR g (by rw [hv]; rfl), fun i u hu => ?_⟩⟩
    have := h.cells (g := g) (by rw [hv]; rfl) (j * s + i) u (flat_get xs hs j hj i u hu)
    rw [Addr.add_lit] at this
    rw [Addr.add_lit, Addr.add_lit]
    simpa [Nat.add_assoc] using this
theorem flat_len {s : Nat} : ∀ (xs : List (List Value)), (∀ x ∈ xs, x.length = s) → xs.flatten.length = xs.length * s
  | [], _ => by simp
  | x :: xs, h => by
    rw [List.flatten_cons, List.length_append, h x (by simp), flat_len xs fun y hy => h y (by simp [hy]), List.length_cons, Nat.succ_mul]
    omega
theorem flat_at {s : Nat} : ∀ (xs : List (List Value)), (∀ x ∈ xs, x.length = s) → ∀ t u, xs.flatten[t]? = some u → ∃ j, ∃ hj : j < xs.length, ∃ i, t = j * s + i ∧ xs[j][i]? = some u
  | [], _, t, u, h => by simp at h
  | x :: xs, hs, t, u, h => by
    have hx : x.length = s := hs x (by simp)
    rw [List.flatten_cons] at h
    by_cases ht : t < x.length
    · rw [List.getElem?_append_left ht] at h
      exact ⟨0, by simp, t, by simp, h⟩
    · rw [List.getElem?_append_right (by omega)] at h
      obtain ⟨j, hj, i, e, hu⟩ := flat_at xs (fun y hy => hs y (by simp [hy])) _ u h
      refine ⟨j + 1, by simpa using hj, i, ?_, by simpa using hu⟩
      rw [Nat.succ_mul]
      omega
theorem row_cells {w : World} {R : Nat → Prop} {s : Nat} {ad : Addr} {xs : List (List Value)} (hx : ∀ j (hj : j < xs.length), ∃ a, some ad = some a ∧ a.block < w.heap.size ∧ R a.block ∧ ∀ i u, xs[j][i]? = some u → w.cell? ((a.add (j * s)).add i) = some u)
    (hs : ∀ x ∈ xs, x.length = s) (h0 : 0 < s) (t : Nat) (u : Value) (hu : xs.flatten[t]? = some u) : w.cell? (ad.add t) = some u := by
  obtain ⟨j, hj, i, rfl, h⟩ := flat_at xs hs t u hu
  obtain ⟨a, e, _, _, hc⟩ := hx j hj
  cases e
  rw [← Addr.add_add]
  exact hc i u h
theorem frozen_blk {w : World} {b : Nat} {cs : Array Value} {t : TypeId} (h : w.heap[b]? = some (.cells cs t (0, 0))) (i : Nat) : w.frozen? ⟨b, i, none⟩ = false := by
  simp [World.frozen?, h]

set_option maxRecDepth 100000 in
theorem bel1 (w : World) (o : Obj) : Below w.heap.size w (w.alloc o) := (Below.refl _ _).alloc (Nat.le_refl _) _
theorem own_form {w : World} {B e s n : Nat} {v : Value} {xs : List Value} (h : w.ownsRow B e s v n xs) : ∃ A c, v = .slice A n c := by
  rcases h.2 with ⟨hv, h0⟩ | ⟨g, cap, cur, hv, _⟩
  · exact ⟨none, 0, by rw [hv, h0]⟩
  · exact ⟨_, _, hv⟩
theorem grownBy_refl (w : World) (row : Option Nat) : w.grownBy w row := ⟨rfl, rfl, rfl, Nat.le_refl _, fun _ _ _ => rfl⟩

/-- Nil is as nil is. -/
def NilOk (v : Value) : Prop := ∀ n c, v = .slice none n c → n = 0 ∧ c = 0
theorem NilOk.own {w : World} {B e s n : Nat} {v : Value} {xs : List Value} (h : w.ownsRow B e s v n xs) : NilOk v := by
  intro m c e
  subst e
  rcases h.2 with ⟨hv, _⟩ | ⟨g, cap, cur, hv, _⟩
  · cases hv; exact ⟨rfl, rfl⟩
  · cases hv

/-- append of a row that can be read, nil or not. -/
theorem wpList_append_row {P : Program} {w : World} {ops : Array Oper} {rest : List Oper} {o : Oper} {a : Act} {Q : Exit → Act → World → Prop} (hgd : o.guard = none) (s x : Operand) (t : TypeId)
    (ho : o.op = .call { callee := .builtin .append, args := #[s, x], argTypes := #[t, t] })
    (base : Nat) (e : TypeId) (i : TypeInfo) (z : Value) (size bytes : Nat) (ht : P.underlying t = some (.slice e)) (hi : P.info? e = some i) (hz : i.zero = some z)
    (hsize : i.size = size) (hby : i.bytes = bytes) (hzs : z.cells.size = size) (hsz : 0 < size)
    (v : Value) (n : Nat) (xs : List Value) (hs : a.eval s = v) (hown : w.ownsRow base e size v n xs)
    {R : Nat → Prop} (rv : Value) (rs : List (List Value)) (hx : a.eval x = rv) (hrow : RowAt w R size rv rs) (hnil : NilOk rv) (hlen : ∀ x ∈ rs, x.length = size) (h1 : ∀ x ∈ rs, ∀ u ∈ x, u.oneCell' = true)
    (h63 : n + rs.length ≤ maxLen) (hbytes : (n + rs.length) * bytes ≤ 140737488355328) (hbase : base ≤ w.heap.size)
    (h : ∀ v' w', w'.ownsRow base e size v' (n + rs.length) (xs ++ rs.flatten) → w.grownBy w' v.ownBlock → (v'.ownBlock = v.ownBlock ∨ v'.ownBlock = some w.heap.size) → wpList P ops Q rest (a.put o.dst v') w') :
    wpList P ops Q (o :: rest) a w := by
  obtain ⟨A, c, hv, hcl⟩ := hrow
  subst hv
  cases A with
  | none =>
    have h0 : rs = [] := by
      cases rs with
      | nil => rfl
      | cons y ys => obtain ⟨ad, e, _⟩ := hcl 0 (by simp); cases e
    subst h0
    obtain ⟨_, rfl⟩ := hnil _ _ rfl
    exact wpList_append_own_none hgd s x t ho base e i size ht hi v n xs hs hown hx (h v w (by simpa using hown) (grownBy_refl _ _) (.inl rfl))
  | some ad =>
    exact wpList_append_own_at _ hgd s x t ho base e i z size bytes ht hi hz hsize hby hzs hsz v n xs hs hown ad rs.length c rs.flatten hx (flat_len rs hlen) (fun j u hu => row_cells hcl hlen hsz j u hu)
      (fun u hu => by obtain ⟨y, hy, hyu⟩ := List.mem_flatten.1 hu; exact h1 y hy u hyu) h63 hbytes hbase fun v' w' h2 h3 _ h5 => h v' w' h2 h3 h5
/-- append of a row that can be read, at a step of a drawn region. -/
theorem step_append_row {P : Program} {w : World} {ops : Array Oper} {o : Oper} {a : Act} {K : Act → World → Prop} {Q : Exit → Act → World → Prop} {E : Prop} (hgd : o.guard = none) (s x : Operand) (t : TypeId)
    (ho : o.op = .call { callee := .builtin .append, args := #[s, x], argTypes := #[t, t] })
    (base : Nat) (e : TypeId) (i : TypeInfo) (z : Value) (size bytes : Nat) (ht : P.underlying t = some (.slice e)) (hi : P.info? e = some i) (hz : i.zero = some z)
    (hsize : i.size = size) (hby : i.bytes = bytes) (hzs : z.cells.size = size) (hsz : 0 < size)
    (v : Value) (n : Nat) (xs : List Value) (hs : a.eval s = v) (hown : w.ownsRow base e size v n xs)
    {R : Nat → Prop} (rv : Value) (rs : List (List Value)) (hx : a.eval x = rv) (hrow : RowAt w R size rv rs) (hnil : NilOk rv) (hlen : ∀ x ∈ rs, x.length = size) (h1 : ∀ x ∈ rs, ∀ u ∈ x, u.oneCell' = true)
    (h63 : n + rs.length ≤ maxLen) (hbytes : (n + rs.length) * bytes ≤ 140737488355328) (hbase : base ≤ w.heap.size)
    (h : ∀ v' w', w'.ownsRow base e size v' (n + rs.length) (xs ++ rs.flatten) → w.grownBy w' v.ownBlock → (v'.ownBlock = v.ownBlock ∨ v'.ownBlock = some w.heap.size) → K (a.put o.dst v') w') :
    if Region.wanted o (yielded ops a.tmps) = true then Oper.wp P o a w K Q else E := by
  have hw : Region.wanted o (yielded ops a.tmps) = true := by simp [Region.wanted, hgd]
  rw [if_pos hw]
  obtain ⟨A, c, hv, hcl⟩ := hrow
  subst hv
  cases A with
  | none =>
    have h0 : rs = [] := by
      cases rs with
      | nil => rfl
      | cons y ys => obtain ⟨ad, e, _⟩ := hcl 0 (by simp); cases e
    subst h0
    obtain ⟨_, rfl⟩ := hnil _ _ rfl
    have hrun := run_append_owned_none (P := P) (w := w) base t o.type e i size ht hi v n xs hown
    unfold Oper.wp
    have hx' : a.eval x = .slice none 0 0 := hx
    simp [execOp, ho, resolve, invoke, builtin, hs, hx', hrun, Result.andThen]
    exact h v w (by simpa using hown) (grownBy_refl _ _) (.inl rfl)
  | some ad =>
    obtain ⟨v', w', hr, h2, h3, _, h5⟩ := run_append_own_at (P := P) w base t o.type e i z size bytes ht hi hz hsize hby hzs hsz v n xs hown ad rs.length c rs.flatten (flat_len rs hlen) (fun j u hu => row_cells hcl hlen hsz j u hu)
      (fun u hu => by obtain ⟨y, hy, hyu⟩ := List.mem_flatten.1 hu; exact h1 y hy u hyu) h63 hbytes hbase
    unfold Oper.wp execOp
    simp only [ho, resolve, invoke, builtin, Sem.run_bind, Sem.run_pure, Result.andThen_ok, List.map_toArray, List.map_cons, List.map_nil, hs, hx, hr]
    exact h v' w' h2 h3 h5

end Go.Proofs.YtplocldnklccfaaGreatDoor
