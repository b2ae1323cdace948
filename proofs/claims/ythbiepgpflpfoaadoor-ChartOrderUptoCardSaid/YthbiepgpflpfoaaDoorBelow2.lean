/- below's iterator. -/
import Derived.Test.YthbiepgpflpfoaaDoorBelow
namespace Go.Proofs.YthbiepgpflpfoaaDoor
open Go.RowKit Go.Shelf
set_option linter.unusedVariables false
set_option linter.unusedSimpArgs false
attribute [local go_sem] Oper.semAt_some

/-- Marks of loops that have run out: blocks that hold no deferred call. -/
structure Marks (B : Nat) (ds : List Nat) (W : World) : Prop where
  nodup : ds.Nodup
  at_ : ∀ D ∈ ds, B ≤ D ∧ W.heap[D]? = some (.deferred (some []))

def marksOf (ds : List Nat) : List Deferred := ds.map fun D => { target := .collected D, args := #[] }

theorem Marks.kp {T : TypeId} {n₀ B : Nat} {ds : List Nat} {W W' : World} (h : Marks B ds W) (k : Kp T n₀ B W W') : Marks B ds W' :=
  ⟨h.nodup, fun D hD => ⟨(h.at_ D hD).1, k.same.same D _ (h.at_ D hD).1 (h.at_ D hD).2 rfl⟩⟩
theorem Marks.lt {B : Nat} {ds : List Nat} {W : World} (h : Marks B ds W) {D : Nat} (hD : D ∈ ds) : D < W.heap.size := heap_lt (h.at_ D hD).2

/-- A function leaves with such marks alone. -/
theorem leaves_marks {F : Fence} {n : Nat} {P : Program} {fn : Func} {tmps : Array Value} {R : Ending → World → Prop} {B : Nat} (hres : ∀ w, ∃ v, (results fn tmps).run P w = .ok v w)
    (hR : ∀ D w v, R (.returned v) w → B ≤ D → w.heap[D]? = some (.deferred (some [])) → R (.returned v) (w.putObj D (.deferred none))) :
    ∀ (ds : List Nat) (w : World), Marks B ds w → (∀ v, R (.returned v) w) → LeavesInM F n P fn tmps R (marksOf ds) .returning w
  | [], w, _, h => by
    obtain ⟨v, hv⟩ := hres w
    exact ⟨v, hv, h v⟩
  | D :: ds, w, hm, h => by
    obtain ⟨hB, hD⟩ := hm.at_ D (by simp)
    refine ⟨by simp, .inl ⟨D, _, rfl, run_takeDeferred hD, ?_⟩⟩
    refine leaves_marks hres hR ds _ ⟨(List.nodup_cons.1 hm.nodup).2, fun D' hD' => ?_⟩ fun v => hR D w v (h v) hB hD
    have hne : D' ≠ D := fun e => (List.nodup_cons.1 hm.nodup).1 (e ▸ hD')
    obtain ⟨h1, h2⟩ := hm.at_ D' (by simp [hD'])
    exact ⟨h1, (heap_putObj_other _ hne).trans h2⟩

theorem YieldAt.any {F : Fence} (hd : F.depth = none) {m : Nat} (m' : Nat) {P : Program} {l : Nat} {args : Array Value} {W : World} {R : Ending → World → Prop} (h : YieldAt F m P l args W R) : YieldAt F m' P l args W R := by
  obtain ⟨fn, tmps, assign, body, hy, hR⟩ := h
  exact ⟨fn, tmps, assign, body, hy, hR.1, fun c cs _ => hR.2 c cs (fun d h => by rw [hd] at h; cases h)⟩

/-- Between two rounds of the iterator's own loop. -/
structure SeqInv (J : List Acct → World → Prop) (W : World) (n₀ l0 : Nat) (pre : List Acct) (ds : List Nat) (wr : World) : Prop where
  j : J pre wr
  box : Boxed wr W.heap.size 72 (.func (.yield l0) #[] #[])
  bel : Below n₀ W wr
  marks : Marks W.heap.size ds wr
  size : W.heap.size ≤ wr.heap.size

theorem Marks.grown {B : Nat} {ds : List Nat} {X Y : World} {row : Option Nat} (h : Marks B ds X) (hg : X.grownBy Y row) (hr : ∀ D ∈ ds, some D ≠ row) : Marks B ds Y :=
  ⟨h.nodup, fun D hD => ⟨(h.at_ D hD).1, (hg.block D (h.lt hD) (hr D hD)).trans (h.at_ D hD).2⟩⟩

theorem seqInv_own {J : List Acct → World → Prop} {W : World} {n₀ l0 B : Nat} {ds : List Nat} {pre : List Acct} {a : Acct} (hJ : OwnFrom W.heap.size J) (hn : n₀ ≤ W.heap.size) (hB : W.heap.size ≤ B) (hds : ∀ D ∈ ds, D < B) :
    OwnFrom B (fun q W' => SeqInv J W n₀ l0 (pre ++ a :: q) ds W') := fun q X Y row h hg hr =>
  ⟨hJ _ X Y row h.j hg (fun r e => ⟨Nat.le_trans hB (hr r e).1, (hr r e).2⟩),
   boxed_own W.heap.size _ (fun (_ : Unit) => Value.func (.yield l0) #[] #[]) () X Y row h.box hg (fun r e => (hr r e).2),
   h.bel.grown hg (Nat.le_trans hn h.size) (fun k e => Nat.le_trans (Nat.le_trans hn hB) (hr k e).1),
   h.marks.grown hg (fun D hD e => by have := (hr D e.symm).1; have := hds D hD; omega), Nat.le_trans h.size hg.size⟩

set_option maxRecDepth 100000 in
set_option maxHeartbeats 4000000 in
theorem seq_step (F : Fence) (hd : F.depth = none) (hF : ∀ k, F.fn k) (hro : F.round = none) (n₀ : Nat) (L : List Acct) (nb : ByteArray → Nat) (kv : ByteArray → Value) (sub : Acct → List Acct) (l : List Acct) (hl : ∀ a ∈ l, a ∈ L) (hlen : l.length ≤ 100)
    (ih : ∀ a ∈ l, ∀ (Bt : Nat) (w : World), n₀ ≤ w.heap.size → Bt < w.heap.size → w.cell? ⟨Bt, 0, none⟩ = some (kv a.name) → ForestAt n₀ w nb kv L → It F Tryd.prog 32 #[.pointer (some ⟨Bt, 0, none⟩)] 72 accV n₀ (sub a) w)
    (Bt : Nat) (A : Option Addr) (c : Nat) (w : World) (hw : n₀ ≤ w.heap.size) (hBt : Bt < w.heap.size) (hB : w.cell? ⟨Bt, 0, none⟩ = some (.slice A l.length c)) (hrow : RowOK n₀ w nb (.slice A l.length c) l) (hf : ForestAt n₀ w nb kv L) :
    It F Tryd.prog 32 #[.pointer (some ⟨Bt, 0, none⟩)] 72 accV n₀ (l.flatMap fun a => a :: sub a) w := by
  intro l0 J Jx W hW hJ hJx hY h0 n
  have hdd : ∀ k : Nat, (F.depth.isSome = true → 1 ≤ k) := fun k h => by rw [hd] at h; cases h
  have hBW : W.cell? ⟨Bt, 0, none⟩ = some (.slice A l.length c) := (hW.cell (p := ⟨Bt, 0, none⟩) hBt).trans hB
  have hwW := hW.size
  have hWn : Below n₀ w W := hW.mono hw
  have hBtW : Bt < W.heap.size := by omega
  refine callsIn_of_wp_marks Tryd.func32 rfl (hF _) ?_ hro
  simp only [Tryd.ntmps32, List.size_toArray, List.length_cons, List.length_nil, Nat.reduceAdd, Nat.reduceSub, Array.replicate_succ, Array.replicate_zero, List.push_toArray, List.append_toArray, List.nil_append, List.cons_append]
  have hres : ∀ (tmps : Array Value) w, ∃ v, (results Tryd.f32 tmps).run Tryd.prog w = .ok v w := fun tmps w => ⟨_, by simp [results, Tryd.results32, go_sem]; rfl⟩
  have hst : ∀ (D : Nat) (w : World) (v : Value), ((∃ v', Ending.returned v = .returned v') ∧ (J (l.flatMap fun a => a :: sub a) w ∨ ∃ pre, pre <+: (l.flatMap fun a => a :: sub a) ∧ Jx pre w)) → W.heap.size ≤ D → w.heap[D]? = some (.deferred (some [])) →
      ((∃ v', Ending.returned v = .returned v') ∧ (J (l.flatMap fun a => a :: sub a) (w.putObj D (.deferred none)) ∨ ∃ pre, pre <+: (l.flatMap fun a => a :: sub a) ∧ Jx pre (w.putObj D (.deferred none)))) :=
    fun D w v h hB hD => ⟨h.1, h.2.imp (fun h => hJ.putObj _ h hB hD rfl) fun ⟨p, hp, h⟩ => ⟨p, hp, hJx.putObj _ h hB hD rfl⟩⟩
  gi_wp2
  refine wpIn_loop (fun a' wr => ∃ (k : Nat) (ds : List Nat) (u3 u4 u5 u9 u10 u11 u12 u13 u14 u15 u16 u17 u18 u19 u20 u21 u22 u23 u24 u25 u26 u27 u28 u29 : Value), SeqInv J W n₀ l0 (l.take k |>.flatMap fun a => a :: sub a) ds wr ∧ k ≤ l.length ∧ a' = { tmps := #[.func (.yield l0) #[] #[], .pointer (some ⟨Bt, 0, none⟩), .pointer (some ⟨W.heap.size, 0, none⟩), u3, u4, u5, .slice A l.length c, .int .i64 (l.length : Int), .int .i64 (k : Int), u9, u10, u11, u12, u13, u14, u15, u16, u17, u18, u19, u20, u21, u22, u23, u24, u25, u26, u27, u28, u29], defers := marksOf ds })
    (fun a' _ => l.length - (intOf (a'.tmps.getD 8 undef)).toNat) ?_ ?_
  · exact ⟨0, [], _, _, _, _, _, _, _, _, _, _, _, _, _, _, _, _, _, _, _, _, _, _, _, _, ⟨by simpa using hJ.alloc _ h0, Boxed.new _ _ _, (Below.refl _ _).alloc (by omega) _, ⟨by simp, by simp⟩, by simp⟩, Nat.zero_le _, rfl⟩
  · rintro a' wr ⟨k, ds, u3, u4, u5, u9, u10, u11, u12, u13, u14, u15, u16, u17, u18, u19, u20, u21, u22, u23, u24, u25, u26, u27, u28, u29, ⟨hJr, hbox, hbel, hmarks, hsz⟩, hk, rfl⟩
    by_cases hlt : k < l.length
    · obtain ⟨a, ha⟩ : ∃ a, a = l[k] := ⟨_, rfl⟩
      have haL : a ∈ L := hl a (ha ▸ List.getElem_mem hlt)
      have hfr := hf.below (hWn.trans hbel)
      obtain ⟨A', c', hAe, hcells⟩ := hrow.below (hWn.trans hbel)
      obtain ⟨rfl, rfl⟩ : A = A' ∧ c = c' := by simpa using hAe
      obtain ⟨ad, rfl, hadl, had⟩ := hcells k hlt
      rw [← ha] at had
      unfold ptrV at had
      have hcb := hbox.cell
      have n0 := hfr.c0 a haL
      have n1 := hfr.c1 a haL
      have n2 := hfr.c2 a haL
      have n3 := hfr.c3 a haL
      have hsplit : (l.flatMap fun a => a :: sub a) = ((l.take k).flatMap fun a => a :: sub a) ++ (a :: sub a) ++ (l.drop (k + 1)).flatMap fun a => a :: sub a := by
        conv => lhs; rw [← List.take_append_drop k l, List.drop_eq_getElem_cons hlt]
        rw [← ha]
        simp [List.flatMap_append, List.flatMap_cons]
      have hstep : (l.take (k + 1)).flatMap (fun a => a :: sub a) = ((l.take k).flatMap fun a => a :: sub a) ++ a :: sub a := by
        rw [List.take_succ_eq_append_getElem hlt, ← ha]
        simp [List.flatMap_append, List.flatMap_cons]
      have hpre : ((l.take k).flatMap fun a => a :: sub a) ++ [a] <+: l.flatMap fun a => a :: sub a := ⟨sub a ++ (l.drop (k + 1)).flatMap fun a => a :: sub a, by rw [hsplit]; simp⟩
      have hsub : ∀ q x, q ++ [x] <+: sub a → ((l.take k).flatMap fun a => a :: sub a) ++ a :: q ++ [x] <+: l.flatMap fun a => a :: sub a := fun q x ⟨t, ht⟩ => ⟨t ++ (l.drop (k + 1)).flatMap fun a => a :: sub a, by rw [hsplit, ← ht]; simp⟩
      have hstop : ∀ q, q <+: sub a → ((l.take k).flatMap fun a => a :: sub a) ++ a :: q <+: l.flatMap fun a => a :: sub a := fun q ⟨t, ht⟩ => ⟨t ++ (l.drop (k + 1)).flatMap fun a => a :: sub a, by rw [hsplit, ← ht]; simp⟩
      have HSUB := Lib.hid (And.intro hsub (And.intro hstop hstep))
      clear hsub hstop hstep hsplit
      have hJd := hJ _ _ wr.drew none hJr ⟨rfl, rfl, rfl, Nat.le_refl _, fun _ _ _ => rfl⟩ (fun r e => by cases e)
      obtain ⟨fn, tmps, assign, body, hy, hR⟩ := hY (n - 1) _ a wr.drew hJd hpre
      unfold accV at hy
      replace hR := hR.mono (R' := fun e W3 => ∃ b, e = .returned (.bool b) ∧ Hid (((b = true ∧ J (((l.take k).flatMap fun a => a :: sub a) ++ [a]) W3) ∨ (b = false ∧ Jx (((l.take k).flatMap fun a => a :: sub a) ++ [a]) W3)) ∧ Kp 72 n₀ W.heap.size wr.drew W3))
        (by rintro e W3 ⟨(⟨rfl, h⟩ | ⟨rfl, h⟩), hk3⟩; exact ⟨true, rfl, ⟨.inl ⟨rfl, h⟩, hk3⟩⟩; exact ⟨false, rfl, ⟨.inr ⟨rfl, h⟩, hk3⟩⟩)
      have HR := Lib.hid hR
      have hkd : Kp 72 n₀ W.heap.size wr wr.drew := (Kp.refl _ _ _ _).drew
      have HA := Lib.hid ha
      clear ha hR hAe hcells
      have hmx : Tryd.prog.follows .mixedOrders = true := by kernel_rfl
      gi_wp2
      gi_region_with_o (refine HR.out.mono ?_; rintro e W3 ⟨b, rfl, h3⟩)
      all_goals clear HR
      all_goals
        obtain ⟨h3, hk3⟩ := h3.out
        have hk3 := hkd.trans hk3
        have hm3 := hmarks.kp hk3
        cases b
        · have hx3 := h3.resolve_left (by simp)
          clear h3
          gi_wp2
          exact leaves_marks (hres _) hst ds _ hm3 fun v => ⟨⟨v, rfl⟩, .inr ⟨_, hpre, hx3.2⟩⟩
        · have hj3 := h3.resolve_right (by simp)
          clear h3
          have hb3 := hk3.box _ _ hbox
          have hbel3 := hbel.trans hk3.bel
          have hf3 := hf.below (hWn.trans hbel3)
          have n4 := hf3.c4 a haL
          obtain ⟨A4, c4, e4, _⟩ := (hf3.kids a haL).ex
          rw [e4] at n4
          gi_wp2_with ((try refine ⟨hdd _, ?_⟩); gi_at_call 22; refine (below_in F _ (hF _) hro _ _ _ _).mono ?_; rintro e w' ⟨rfl, rfl⟩)
          obtain ⟨W4, hW4⟩ : ∃ W4, W3.alloc (.cells #[.slice A4 (kidsA L a.name).length c4] 57) = W4 := ⟨_, rfl⟩
          have hs4 : W4.heap.size = W3.heap.size + 1 := by rw [← hW4]; simp
          have hs3 : W.heap.size ≤ W3.heap.size := Nat.le_trans hsz hk3.bel.size
          have hk4 : Kp 72 n₀ W.heap.size W3 W4 := by rw [← hW4]; exact Kp.alloc _ (by omega)
          have hj4 : J (((l.take k).flatMap fun a => a :: sub a) ++ [a]) W4 := by rw [← hW4]; exact hJ.alloc _ hj3.2
          have hc4 : W4.cell? ⟨W3.heap.size, 0, none⟩ = some (kv a.name) := by rw [← hW4, e4]; exact (Boxed.new W3 _ _).cell
          have hb4 := hk4.box _ _ hb3
          have hm4 := hm3.kp hk4
          have hbel4 := hbel3.trans hk4.bel
          have hml4 : ∀ D ∈ ds, D < W4.heap.size := fun D hD => hm4.lt hD
          have hit := ih a (HA.out ▸ List.getElem_mem hlt) W3.heap.size W4 (by omega) (by omega) hc4 (hf.below (hWn.trans hbel4))
          rw [hW4]
          refine wpIn_range_it (T := 72) (enc := accV) (n₀ := n₀) (ys := sub a) hd hro (gf := 32) (lb := #[.pointer (some ⟨W3.heap.size, 0, none⟩)]) rfl (hF _) (enters_of Tryd.func32 (by kernel_rfl) rfl) hit (by omega)
            (fun q W' => SeqInv J W n₀ l0 (((l.take k).flatMap fun a => a :: sub a) ++ a :: q) ds W')
            (fun q W' => Jx (((l.take k).flatMap fun a => a :: sub a) ++ a :: q) W' ∧ Marks W.heap.size ds W')
            (seqInv_own hJ (by omega) (by omega) hml4)
            (fun q X Y row h hg hr => ⟨hJx _ X Y row h.1 hg (fun r e => ⟨Nat.le_trans (by omega) (hr r e).1, (hr r e).2⟩), h.2.grown hg (fun D hD e => by have := (hr D e.symm).1; have := hml4 D hD; omega)⟩)
            ⟨hj4, hb4, hbel4, hm4, by omega⟩
            (fun x a' W' => ∃ Bx, W'.heap[Bx]? = some (.cells #[.string x.name, .int .i64 x.typ, .int .i64 x.opened, .bool x.closed] 35 (0, 0)) ∧ a' = { tmps := #[.func (.yield l0) #[] #[], .pointer (some ⟨Bt, 0, none⟩), .pointer (some ⟨W.heap.size, 0, none⟩), u3, .pointer (some ⟨nb a.name, 0, none⟩), .pointer (some ⟨Bx, 0, none⟩), .slice (some ad) l.length c, .int .i64 (l.length : Int), .int .i64 (k : Int), .bool true, .pointer (some (ad.add k)), .pointer (some ⟨nb a.name, 0, none⟩), .func (.yield l0) #[] #[], .pointer (some ⟨nb a.name, 0, none⟩), .pointer (some ⟨nb a.name, 0, none⟩), .pointer (some ⟨nb a.name, 0, none⟩), .agg #[.string a.name, .int .i64 a.typ, .int .i64 a.opened, .bool a.closed], .bool true, .bool false, .pointer (some ⟨nb a.name, 0, none⟩), .pointer (some ⟨nb a.name, 0, none⟩), .pointer (some ⟨nb a.name, 4, none⟩), .slice A4 (kidsA L a.name).length c4, .func (.func 32) #[] #[.pointer (some ⟨W3.heap.size, 0, none⟩)], accV x, u25, u26, u27, u28, u29], defers := [] })
            (fun x a' _ X Y row h hg hr => by
              obtain ⟨Bx, h1, h2⟩ := h
              refine ⟨Bx, (hg.block Bx (heap_lt h1) (fun e => ?_)).trans h1, h2⟩
              obtain ⟨_, o, ho, hc⟩ := hr Bx e.symm
              rw [h1] at ho; cases ho; cases hc)
            ?assign ?body ?done ?stop
          case assign =>
            intro l2 m q x W' K hs' hI hK
            unfold accV
            gi_wp2
            exact hK _ _ (Kp.alloc _ (by omega)) ⟨hJ.alloc _ hI.j, hI.box.alloc _, hI.bel.alloc (by omega) _, hI.marks.kp (Kp.alloc (T := 72) (n₀ := n₀) _ (by omega)), by simp; omega⟩ ⟨W'.heap.size, heap_alloc_new _ _, rfl⟩
          case body =>
            rintro l2 m q x a' W' hs' ⟨hjq, hbq, hbelq, hmq, hsq⟩ ⟨Bx, hBx, rfl⟩ hq
            obtain ⟨fn, tmps, assign, body, hy, hR⟩ := hY (m - 1) _ x W' hjq (HSUB.out.1 q x hq)
            unfold accV at hy ⊢
            have hcq := hbq.cell
            have x0 : W'.cell? ⟨Bx, 0, none⟩ = some (.string x.name) := by rw [cell_of_blk hBx]; rfl
            have x1 : W'.cell? ⟨Bx, 1, none⟩ = some (.int .i64 x.typ) := by rw [cell_of_blk hBx]; rfl
            have x2 : W'.cell? ⟨Bx, 2, none⟩ = some (.int .i64 x.opened) := by rw [cell_of_blk hBx]; rfl
            have x3 : W'.cell? ⟨Bx, 3, none⟩ = some (.bool x.closed) := by rw [cell_of_blk hBx]; rfl
            have HR := Lib.hid hR
            clear hR
            have hdd2 : ∀ k : Nat, ((F.inRound l2).depth.isSome = true → 1 ≤ k) := fun k h => by rw [show (F.inRound l2).depth = F.depth from rfl, hd] at h; cases h
            gi_wp2
            refine RoundIn.mono (show RoundIn (F.inRound l2) _ _ _ _ _ _ _ _ _ from HR.out) ?_
            clear HR hy
            rintro e W5 ⟨(⟨rfl, h5⟩ | ⟨rfl, h5⟩), hk5⟩
            · gi_wp2
              exact ⟨hk5.mono (by omega), by simpa using h5, hk5.box _ _ hbq, hbelq.trans hk5.bel, hmq.kp hk5, Nat.le_trans hsq hk5.bel.size⟩
            · gi_wp2
              exact ⟨hk5.mono (by omega), by simpa using h5, hmq.kp hk5⟩
          case done =>
            intro D W' hD ⟨hjq, hbq, hbelq, hmq, hsq⟩ hDd
            have hmD : Marks W.heap.size (D :: ds) W' := ⟨List.nodup_cons.2 ⟨fun h => by have := hml4 D h; omega, hmq.nodup⟩, fun D' hD' => by
              rcases List.mem_cons.1 hD' with rfl | hD'
              · exact ⟨by omega, hDd⟩
              · exact hmq.at_ D' hD'⟩
            gi_wp2
            exact ⟨⟨k + 1, D :: ds, _, _, _, _, _, _, _, _, _, _, _, _, _, _, _, _, _, _, _, _, _, _, _, _, ⟨by rw [HSUB.out.2.2]; exact hjq, hbq, hbelq, hmD, by omega⟩, by omega, rfl⟩, by simp [intOf]; omega⟩
          case stop =>
            rintro D q W' hD hq ⟨hx, hmk⟩ hDd
            have hmD : Marks W.heap.size (D :: ds) W' := ⟨List.nodup_cons.2 ⟨fun h => by have := hml4 D h; omega, hmk.nodup⟩, fun D' hD' => by
              rcases List.mem_cons.1 hD' with rfl | hD'
              · exact ⟨by omega, hDd⟩
              · exact hmk.at_ D' hD'⟩
            gi_wp2
            exact leaves_marks (hres _) hst (D :: ds) _ hmD fun v => ⟨⟨v, rfl⟩, .inr ⟨_, HSUB.out.2.1 q hq, hx⟩⟩
    · gi_wp2
      obtain rfl : k = l.length := by omega
      rw [List.take_length] at hJr
      exact leaves_marks (hres _) hst ds _ hmarks fun v => ⟨⟨v, rfl⟩, .inl hJr⟩

/-- The whole iterator, by how deep the accounts lie. -/
theorem seq_it (F : Fence) (hd : F.depth = none) (hF : ∀ k, F.fn k) (hro : F.round = none) (n₀ : Nat) (L : List Acct) (nb : ByteArray → Nat) (kv : ByteArray → Value) (B : Nat) (hlen : L.length ≤ 100)
    (hsz : ∀ a ∈ L, a.name.size ≤ B) (hkid : ∀ a ∈ L, ∀ b ∈ kidsA L a.name, a.name.size < b.name.size) :
    ∀ (d : Nat) (l : List Acct), (∀ a ∈ l, a ∈ L) → (∀ a ∈ l, B < a.name.size + d) → l.length ≤ 100 → ∀ (Bt : Nat) (v : Value) (w : World), n₀ ≤ w.heap.size → Bt < w.heap.size → w.cell? ⟨Bt, 0, none⟩ = some v → RowOK n₀ w nb v l → ForestAt n₀ w nb kv L →
      It F Tryd.prog 32 #[.pointer (some ⟨Bt, 0, none⟩)] 72 accV n₀ (preL L d l) w
  | 0, l, hl, hB, hll, Bt, v, w, hw, hBt, hv, hrow, hf => by
    have hnil : l = [] := by
      cases l with
      | nil => rfl
      | cons a r =>
        have h1 := hB a (by simp)
        have h2 := hsz a (hl a (by simp))
        omega
    subst hnil
    have hrow' := hrow
    obtain ⟨A, c, rfl, _⟩ := hrow'
    exact seq_step F hd hF hro n₀ L nb kv (fun _ => []) [] (by simp) (by simp) (by simp) Bt A c w hw hBt hv hrow hf
  | d + 1, l, hl, hB, hll, Bt, v, w, hw, hBt, hv, hrow, hf => by
    have hrow' := hrow
    obtain ⟨A, c, rfl, _⟩ := hrow'
    refine seq_step F hd hF hro n₀ L nb kv (fun a => preL L d (kidsA L a.name)) l hl hll (fun a ha Bt' w' hw' hBt' hv' hf' => ?_) Bt A c w hw hBt hv hrow hf
    have haL := hl a ha
    refine seq_it F hd hF hro n₀ L nb kv B hlen hsz hkid d (kidsA L a.name) (fun b hb => (List.mem_filter.1 hb).1) (fun b hb => ?_) ?_ Bt' (kv a.name) w' hw' hBt' hv' (hf'.kids a haL) hf'
    · have h1 := hB a ha
      have h2 := hkid a haL b hb
      omega
    · exact Nat.le_trans (List.length_filter_le _ _) hlen
end Go.Proofs.YthbiepgpflpfoaaDoor
