/- Close of a chart. -/
import Derived.Test.YthbiepgpflpfoaaDoorBelow2
import Derived.Test.YthbiepgpflpfoaaDoorValid
namespace Go.Proofs.YthbiepgpflpfoaaDoor
open Go.RowKit Go.Shelf
set_option linter.unusedVariables false
set_option linter.unusedSimpArgs false
attribute [local go_sem] Oper.semAt_some

set_option maxRecDepth 100000 in
theorem Close_none (cb mb : Nat) (name : ByteArray) (w : World) (hlt : cb < w.heap.size) (hc0 : w.cell? ⟨cb, 0, none⟩ = some (.map (some mb)))
    (hlk : ∀ o, Sem.run Tryd.prog (Instr.lookup 56 (.map (some mb)) (.string name) false) (w.alloc o) = .ok (.pointer none) (w.alloc o)) :
    Calls Tryd.prog 13 #[.pointer (some ⟨cb, 0, none⟩), .string name] w fun e w' => e = .returned (.int .i64 61) ∧ Below w.heap.size w w' := by
  go_enter Tryd.func13, Tryd.ntmps13
  go_wp2
  refine bodyPost_ret (v := .int .i64 61) (by simp [results, Tryd.results13, go_sem]) rfl ⟨rfl, ?_⟩
  first | exact (Below.refl _ _).alloc (Nat.le_refl _) _ | exact ((Below.refl _ _).alloc (Nat.le_refl _) _).setCell (Nat.le_refl _) _

set_option maxRecDepth 100000 in
theorem Close_closed (cb mb nb : Nat) (name : ByteArray) (w : World) (hlt : cb < w.heap.size) (hln : nb < w.heap.size) (hc0 : w.cell? ⟨cb, 0, none⟩ = some (.map (some mb)))
    (hlk : ∀ o, Sem.run Tryd.prog (Instr.lookup 56 (.map (some mb)) (.string name) false) (w.alloc o) = .ok (.pointer (some ⟨nb, 0, none⟩)) (w.alloc o))
    (h3 : w.cell? ⟨nb, 3, none⟩ = some (.bool true)) :
    Calls Tryd.prog 13 #[.pointer (some ⟨cb, 0, none⟩), .string name] w fun e w' => e = .returned (.int .i64 63) ∧ Below w.heap.size w w' := by
  go_enter Tryd.func13, Tryd.ntmps13
  go_wp2
  refine bodyPost_ret (v := .int .i64 63) (by simp [results, Tryd.results13, go_sem]) rfl ⟨rfl, ?_⟩
  first | exact (Below.refl _ _).alloc (Nat.le_refl _) _ | exact ((Below.refl _ _).alloc (Nat.le_refl _) _).setCell (Nat.le_refl _) _

/-- What Close leaves where the account is open: ys: all that is below it. -/
def CloseEnd (ys : List Acct) (nb : Nat) (w : World) (e : Ending) (w' : World) : Prop :=
  (ys.all (·.closed) = false ∧ e = .returned (.int .i64 65) ∧ Below w.heap.size w w') ∨
  (ys.all (·.closed) = true ∧ e = .returned (.int .i64 0) ∧ Ch (fun k => k = nb) w w' ∧ ∀ cs t, w.heap[nb]? = some (.cells cs t (0, 0)) → w'.heap[nb]? = some (.cells (cs.setIfInBounds 3 (.bool true)) t (0, 0)))

set_option maxRecDepth 100000 in
set_option maxHeartbeats 4000000 in
theorem Close_open (F : Fence) (n : Nat) (hd : F.depth = none) (hF : ∀ k, F.fn k) (hro : F.round = none) (cb mb nb : Nat) (name : ByteArray) (ys : List Acct) (Ak : Option Addr) (nk ck : Nat) (w : World) (hlt : cb < w.heap.size) (hln : nb < w.heap.size) (hc0 : w.cell? ⟨cb, 0, none⟩ = some (.map (some mb)))
    (hlk : ∀ o, Sem.run Tryd.prog (Instr.lookup 56 (.map (some mb)) (.string name) false) (w.alloc o) = .ok (.pointer (some ⟨nb, 0, none⟩)) (w.alloc o))
    (h3 : w.cell? ⟨nb, 3, none⟩ = some (.bool false)) (hf3 : w.frozen? ⟨nb, 3, none⟩ = false) (h4 : w.cell? ⟨nb, 4, none⟩ = some (.slice Ak nk ck))
    (hit : ∀ (W : World) (Bt : Nat), Below w.heap.size w W → Bt < W.heap.size → W.cell? ⟨Bt, 0, none⟩ = some (.slice Ak nk ck) → It F Tryd.prog 32 #[.pointer (some ⟨Bt, 0, none⟩)] 72 accV w.heap.size ys W) :
    CallsIn F n Tryd.prog 13 #[.pointer (some ⟨cb, 0, none⟩), .string name] w (CloseEnd ys nb w) := by
  have HIT := Lib.hid hit
  clear hit
  have hdd : ∀ k : Nat, (F.depth.isSome = true → 1 ≤ k) := fun k h => by rw [hd] at h; cases h
  refine callsIn_of_wp_marks Tryd.func13 rfl (hF _) ?_ hro
  simp only [Tryd.ntmps13, List.size_toArray, List.length_cons, List.length_nil, Nat.reduceAdd, Nat.reduceSub, Array.replicate_succ, Array.replicate_zero, List.push_toArray, List.append_toArray, List.nil_append, List.cons_append]
  gi_wp2_with ((try refine ⟨hdd _, ?_⟩); gi_at_call 22; refine (below_in F _ (hF _) hro _ _ _ _).mono ?_; rintro e w' ⟨rfl, rfl⟩)
  have bR := (Boxed.new w 38 (.int .i64 0)).alloc (.cells #[.slice Ak nk ck] 57)
  have bL := Boxed.new (w.alloc (.cells #[.int .i64 0] 38)) 57 (.slice Ak nk ck)
  rw [World.size_alloc] at bL
  have hB0 : Below w.heap.size w ((w.alloc (.cells #[.int .i64 0] 38)).alloc (.cells #[.slice Ak nk ck] 57)) := ((Below.refl _ w).alloc (Nat.le_refl _) _).alloc (by simp) _
  have hsz : ((w.alloc (.cells #[.int .i64 0] 38)).alloc (.cells #[.slice Ak nk ck] 57)).heap.size = w.heap.size + 2 := by simp
  obtain ⟨W0, hW0⟩ : ∃ W0, (w.alloc (.cells #[.int .i64 0] 38)).alloc (.cells #[.slice Ak nk ck] 57) = W0 := ⟨_, rfl⟩
  rw [hW0] at bR bL hB0 hsz ⊢
  clear hW0 hlk
  refine wpIn_range_it (T := 72) (enc := accV) (n₀ := w.heap.size) (ys := ys) hd hro (gf := 32) (lb := #[.pointer (some ⟨w.heap.size + 1, 0, none⟩)]) rfl (hF _) (enters_of Tryd.func32 (by kernel_rfl) rfl)
    (HIT.out W0 (w.heap.size + 1) hB0 (by omega) bL.cell) (by omega)
    (fun pre W => (Boxed W w.heap.size 38 (.int .i64 0) ∧ pre.all (·.closed) = true) ∧ Below w.heap.size w W)
    (fun pre W => (Boxed W w.heap.size 38 (.int .i64 65) ∧ pre.all (·.closed) = false) ∧ Below w.heap.size w W)
    (OwnFrom.and (OwnFrom.and (Own.from (boxed_own _ _ _) _) (ownFrom_pure _ _)) (ownFrom_below (Nat.le_refl _) (by omega)))
    (OwnFrom.and (OwnFrom.and (Own.from (boxed_own _ _ _) _) (ownFrom_pure _ _)) (ownFrom_below (Nat.le_refl _) (by omega)))
    ⟨⟨bR, rfl⟩, hB0⟩
    (fun x a' W => ∃ Bx, W.heap[Bx]? = some (.cells #[.string x.name, .int .i64 x.typ, .int .i64 x.opened, .bool x.closed] 35 (0, 0)) ∧ a' = { tmps := #[.pointer (some ⟨cb, 0, none⟩), .string name, undef, undef, .pointer (some ⟨w.heap.size, 0, none⟩), .pointer (some ⟨nb, 0, none⟩), .pointer (some ⟨Bx, 0, none⟩), .pointer (some ⟨cb, 0, none⟩), .pointer (some ⟨cb, 0, none⟩), .pointer (some ⟨cb, 0, none⟩), .map (some mb), .string name, .pointer (some ⟨nb, 0, none⟩), .bool false, .pointer (some ⟨nb, 0, none⟩), .bool false, .bool false, .pointer (some ⟨nb, 0, none⟩), .pointer (some ⟨nb, 0, none⟩), .pointer (some ⟨nb, 0, none⟩), .pointer (some ⟨nb, 3, none⟩), .bool false, .pointer (some ⟨nb, 0, none⟩), .pointer (some ⟨nb, 0, none⟩), .pointer (some ⟨nb, 4, none⟩), .slice Ak nk ck, .func (.func 32) #[] #[.pointer (some ⟨w.heap.size + 1, 0, none⟩)], accV x, undef, undef, undef, undef, undef, undef, undef], defers := [] })
    (fun x a' _ X Y row h hg hr => by
      obtain ⟨Bx, h1, h2⟩ := h
      refine ⟨Bx, (hg.block Bx (heap_lt h1) (fun e => ?_)).trans h1, h2⟩
      obtain ⟨_, o, ho, hc⟩ := hr Bx e.symm
      rw [h1] at ho; cases ho; cases hc)
    ?assign ?body ?done ?stop
  case assign =>
    intro l2 m q x W' K hs' hI hK
    unfold accV
    gi_wp2
    exact hK _ _ (Kp.alloc _ (by omega)) ⟨⟨hI.1.1.alloc _, hI.1.2⟩, hI.2.alloc (by omega) _⟩ ⟨W'.heap.size, heap_alloc_new _ _, rfl⟩
  case body =>
    rintro l2 m q x a' W' hs' ⟨⟨hbR, hall⟩, hbel⟩ ⟨Bx, hBx, rfl⟩ hq
    unfold accV
    have x3 : W'.cell? ⟨Bx, 3, none⟩ = some (.bool x.closed) := by rw [cell_of_blk hBx]; rfl
    have hcR := hbR.cell
    have hfR := hbR.frozen
    cases hx : x.closed with
    | true =>
      rw [hx] at x3
      gi_wp2
      exact ⟨Kp.refl _ _ _ _, ⟨hbR, by simp [hall, hx]⟩, hbel⟩
    | false =>
      rw [hx] at x3
      gi_wp2
      exact ⟨Kp.setCell _ (Nat.le_refl _) (fun v hv => by have := (show W'.heap[w.heap.size]? = _ from hbR).symm.trans hv; injection this with this; injection this with h1 h2; exact absurd h2 (by decide)), ⟨hbR.set _, by simp [hall, hx]⟩, hbel.setCell (p := ⟨w.heap.size, 0, none⟩) (Nat.le_refl _) _⟩
  case done =>
    rintro D W' hD ⟨⟨hbR, hall⟩, hbel⟩ hDd
    have hcR := hbR.cell
    have hfR := hbR.frozen
    have hc3 := (hbel.cell (p := ⟨nb, 3, none⟩) hln).trans h3
    have hf3' := (hbel.frozen (p := ⟨nb, 3, none⟩) hln).trans hf3
    have hne : nb ≠ w.heap.size := by omega
    gi_wp2
    obtain ⟨W5, hW5⟩ : ∃ W5, (W'.setCell ⟨nb, 3, none⟩ (.bool true)).setCell ⟨w.heap.size, 0, none⟩ (.int .i64 0) = W5 := ⟨_, rfl⟩
    rw [hW5]
    have hD5 : W5.heap[D]? = some (.deferred (some [])) := by rw [← hW5]; exact ((KeepsOthers.setCell _ _ _).trans (KeepsOthers.setCell _ _ _)).same D _ hDd rfl
    have bR5 : Boxed W5 w.heap.size 38 (.int .i64 0) := by
      rw [← hW5]
      exact Boxed.set _ ((Below.heap_setCell W' ⟨nb, 3, none⟩ (.bool true) w.heap.size (Ne.symm hne)).trans hbR)
    have hc5 : (W5.putObj D (.deferred none)).cell? ⟨w.heap.size, 0, none⟩ = some (.int .i64 0) := (Boxed.kept bR5 (grownBy_putObj' W5 D _) (fun e => by injection e with e; omega)).cell
    refine ⟨by simp, .inl ⟨_, _, rfl, run_takeDeferred hD5, ?_⟩⟩
    refine ⟨.int .i64 0, by simp [results, Tryd.results13, go_sem, hc5], .inr ⟨hall, rfl, ?_, fun cs t ht => ?_⟩⟩
    · have c1 : Ch (fun k => k = nb) w W5 := by
        rw [← hW5]
        exact ((Ch.of_below (F := fun k => k = nb) hbel).setCell (p := ⟨nb, 3, none⟩) (.inl rfl) _).setCell (p := ⟨w.heap.size, 0, none⟩) (.inr (Nat.le_refl _)) _
      exact c1.putObj (.inr (by omega)) _
    · have h1 := heap_setCell_same ((hbel.block nb hln).trans ht) (i := 3) (.bool true)
      have h2 : W5.heap[nb]? = some (.cells (cs.setIfInBounds 3 (.bool true)) t (0, 0)) := by rw [← hW5]; exact (Below.heap_setCell _ ⟨w.heap.size, 0, none⟩ _ nb hne).trans h1
      exact (heap_putObj_other _ (by omega)).trans h2
  case stop =>
    rintro D q W' hD hq ⟨⟨hbR, hall⟩, hbel⟩ hDd
    gi_wp2
    have hc5 : (W'.putObj D (.deferred none)).cell? ⟨w.heap.size, 0, none⟩ = some (.int .i64 65) := (Boxed.kept hbR (grownBy_putObj' W' D _) (fun e => by injection e with e; omega)).cell
    refine ⟨by simp, .inl ⟨_, _, rfl, run_takeDeferred hDd, ?_⟩⟩
    refine ⟨.int .i64 65, by simp [results, Tryd.results13, go_sem, hc5], .inl ⟨?_, rfl, hbel.trans (belowK_b (w := w) (Nat.le_refl _) W' D _ _ (by omega) hDd rfl rfl)⟩⟩
    obtain ⟨t, ht⟩ := hq
    rw [← ht, List.all_append, hall]
    rfl

/-- What Close answers, and the accounts behind it. -/
def closeE (L : List Acct) (name : ByteArray) : Int :=
  match findA L name with
  | none => 61
  | some a => if a.closed then 63 else if (flatA L (kidsA L a.name)).all (·.closed) then 0 else 65
def shutA (n : ByteArray) (L : List Acct) : List Acct := L.map fun b => if b.name = n then { b with closed := true } else b
def closeL (L : List Acct) (name : ByteArray) : List Acct := if closeE L name = 0 then shutA name L else L

theorem shut_name (n : ByteArray) (L : List Acct) : (shutA n L).map (·.name) = L.map (·.name) := by
  unfold shutA
  rw [List.map_map]
  apply List.map_congr_left
  intro b _
  simp only [Function.comp]
  split <;> rfl
theorem mem_shut {n : ByteArray} {L : List Acct} {x : Acct} (h : x ∈ shutA n L) : ∃ b ∈ L, x.name = b.name ∧ x.typ = b.typ ∧ x.opened = b.opened ∧ x.closed = if b.name = n then true else b.closed := by
  obtain ⟨b, hb, rfl⟩ := List.mem_map.1 h
  refine ⟨b, hb, ?_⟩
  split <;> simp
theorem filter_shut (p : ByteArray → Bool) (n : ByteArray) (L : List Acct) : (shutA n L).filter (fun a => p a.name) = shutA n (L.filter fun a => p a.name) := by
  unfold shutA
  induction L with
  | nil => rfl
  | cons b r ih =>
    have e : (if b.name = n then { b with closed := true } else b).name = b.name := by split <;> rfl
    rw [List.map_cons, List.filter_cons, List.filter_cons, e, ih]
    split <;> simp
theorem find_shut (n k : ByteArray) (L : List Acct) : (findA (shutA n L) k) = (findA L k).map fun b => if b.name = n then { b with closed := true } else b := by
  unfold findA shutA
  induction L with
  | nil => rfl
  | cons b r ih =>
    have e : (if b.name = n then { b with closed := true } else b).name = b.name := by split <;> rfl
    rw [List.map_cons, List.find?_cons, List.find?_cons, e, ih]
    split <;> rfl
theorem map_shut {β : Type} (f : ByteArray → β) (n : ByteArray) (L : List Acct) : ((shutA n L).map fun a => f a.name) = L.map fun a => f a.name := by
  have := congrArg (List.map f) (shut_name n L)
  rw [List.map_map, List.map_map] at this
  exact this

/-- The chart of a list of which one account is closed. -/
theorem CR.shut {w w' : World} {F : Nat → Prop} {cb mb : Nat} {L : List Acct} {rv : Value} {nb : ByteArray → Nat} {kv : ByteArray → Value} {ps : List (ByteArray × Value)}
    (h : CR w F cb L mb rv nb kv ps) {a : Acct} (ha : a ∈ L) (hc : Ch (fun k => k = nb a.name) w w')
    (hn : ∀ cs t, w.heap[nb a.name]? = some (.cells cs t (0, 0)) → w'.heap[nb a.name]? = some (.cells (cs.setIfInBounds 3 (.bool true)) t (0, 0))) : CR w' F cb (shutA a.name L) mb rv nb kv ps := by
  have keep : ∀ k, k < w.heap.size → k ≠ nb a.name → w'.heap[k]? = w.heap[k]? := fun k hk hn => hc.block k hk hn
  have hk : ∀ n, kidsA (shutA a.name L) n = shutA a.name (kidsA L n) := fun n => filter_shut (fun x => decide (parentF x = some n)) a.name L
  have hr : rootsA (shutA a.name L) = shutA a.name (rootsA L) := filter_shut (fun x => decide (parentF x = none)) a.name L
  refine { hC := (keep cb (heap_lt h.hC) (h.cb_nb ha)).trans h.hC, hM := h.hM.keep (keep mb h.hM.lt (Ne.symm (h.nb_mb ha))), hps := ?_, hlen := ?_, le := ?_, hN := ?_, hK := ?_, hR := ?_, fC := h.fC, fM := h.fM, fN := ?_, fK := ?_, fR := h.fR, inj := ?_, dK := ?_, dR := ?_ }
  · intro k
    rw [h.hps, find_shut]
    cases findA L k with
    | none => rfl
    | some b =>
      simp only [Option.map_some]
      congr 2
      split <;> rfl
  · rw [h.hlen]; simp [shutA]
  · simpa [shutA] using h.le
  · intro x hx
    obtain ⟨b, hb, e1, e2, e3, e4⟩ := mem_shut hx
    rw [e1, e2, e3, e4]
    have hnb := h.hN b hb
    by_cases e : b.name = a.name
    · rw [if_pos e]
      rw [e] at hnb ⊢
      exact hn _ _ hnb
    · rw [if_neg e, keep _ (heap_lt hnb) (fun e' => e (h.inj b hb a ha e'))]
      exact hnb
  · intro x hx
    obtain ⟨b, hb, e1, _⟩ := mem_shut hx
    rw [e1, hk, map_shut (fun m => ptrV (nb m)), show (shutA a.name (kidsA L b.name)).length = (kidsA L b.name).length from by simp [shutA]]
    exact ownsRow_keep (h.hK b hb) fun k e => keep k ((h.hK b hb).lt k e).2 (fun e' => own_ne (h.hK b hb) (h.hN a ha) (by decide) (by rw [e, e']))
  · rw [hr, map_shut (fun m => ptrV (nb m)), show (shutA a.name (rootsA L)).length = (rootsA L).length from by simp [shutA]]
    exact ownsRow_keep h.hR fun k e => keep k (h.hR.lt k e).2 (fun e' => own_ne h.hR (h.hN a ha) (by decide) (by rw [e, e']))
  · intro x hx
    obtain ⟨b, hb, e1, _⟩ := mem_shut hx
    rw [e1]; exact h.fN b hb
  · intro x hx
    obtain ⟨b, hb, e1, _⟩ := mem_shut hx
    rw [e1]; exact h.fK b hb
  · intro x hx y hy
    obtain ⟨b, hb, e1, _⟩ := mem_shut hx
    obtain ⟨c, hc', e2, _⟩ := mem_shut hy
    rw [e1, e2]; exact h.inj b hb c hc'
  · intro x hx y hy
    obtain ⟨b, hb, e1, _⟩ := mem_shut hx
    obtain ⟨c, hc', e2, _⟩ := mem_shut hy
    rw [e1, e2]; exact h.dK b hb c hc'
  · intro x hx
    obtain ⟨b, hb, e1, _⟩ := mem_shut hx
    rw [e1]; exact h.dR b hb

theorem Close_any {w : World} {F : Nat → Prop} {cb : Nat} {L : List Acct} (h : ChartAt w F cb L) (hv : Valid L) (name : ByteArray) :
    Calls Tryd.prog 13 #[.pointer (some ⟨cb, 0, none⟩), .string name] w (MutPost F cb (closeL L name) (.int .i64 (closeE L name)) w) := by
  obtain ⟨mb, rv, nb, kv, ps, hcr⟩ := h
  have hlk := fun o => (hcr.keep (w' := w.alloc o) fun k _ hk => Below.heap_alloc w o k hk).lookup name
  have hc0 : w.cell? ⟨cb, 0, none⟩ = some (.map (some mb)) := by rw [cell_of_blk hcr.hC]; rfl
  have same : ∀ (n : Int) (e : Ending) (w' : World), n ≠ 0 → closeE L name = n → (e = .returned (.int .i64 n) ∧ Below w.heap.size w w') → MutPost F cb (closeL L name) (.int .i64 (closeE L name)) w e w' := fun n e w' hn hc ⟨h1, h2⟩ => by
    unfold closeL
    rw [hc, if_neg hn]
    exact ⟨h1, F, ChartAt.below ⟨mb, rv, nb, kv, ps, hcr⟩ h2, Ch.of_below h2, fun k hk => .inl hk⟩
  cases hf : findA L name with
  | none =>
    have hE : closeE L name = 61 := by unfold closeE; rw [hf]
    rw [hf] at hlk
    exact (Close_none cb mb name w (heap_lt hcr.hC) hc0 hlk).mono fun e w' hp => same 61 e w' (by decide) hE hp
  | some a =>
    rw [hf] at hlk
    obtain ⟨ha, rfl⟩ := findA_some hf
    have hn := hcr.hN a ha
    cases hcl : a.closed with
    | true =>
      have hE : closeE L a.name = 63 := by unfold closeE; rw [hf]; simp [hcl]
      exact (Close_closed cb mb (nb a.name) a.name w (heap_lt hcr.hC) (heap_lt hn) hc0 hlk (by rw [cell_of_blk hn]; simp [hcl])).mono fun e w' hp => same 63 e w' (by decide) hE hp
    | false =>
      obtain ⟨hfo, _⟩ := hcr.forest
      obtain ⟨Ak, ck, hkv, _⟩ := (hfo.kids a ha).ex
      have hrow := hfo.kids a ha
      have hc4 := hfo.c4 a ha
      rw [hkv] at hrow hc4
      have hB : ∀ b ∈ kidsA L a.name, 102 < b.name.size + 103 := fun b _ => by omega
      have hkl : (kidsA L a.name).length ≤ 100 := Nat.le_trans (List.length_filter_le _ _) hv.le
      have hit : ∀ (W : World) (Bt : Nat), Below w.heap.size w W → Bt < W.heap.size → W.cell? ⟨Bt, 0, none⟩ = some (.slice Ak (kidsA L a.name).length ck) → It Fence.wide Tryd.prog 32 #[.pointer (some ⟨Bt, 0, none⟩)] 72 accV w.heap.size (flatA L (kidsA L a.name)) W :=
        fun W Bt hb hBt hcell => seq_it Fence.wide rfl (fun _ => trivial) rfl w.heap.size L nb kv 102 hv.le (fun a ha => hv.size ha) hv.kid 103 (kidsA L a.name) (fun b hb => (List.mem_filter.1 hb).1) hB hkl Bt _ W hb.size hBt hcell (hrow.below hb) (hfo.below hb)
      refine ((callsIn_wide (n := 3)).1 (Close_open Fence.wide 3 rfl (fun _ => trivial) rfl cb mb (nb a.name) a.name _ Ak _ ck w (heap_lt hcr.hC) (heap_lt hn) hc0 hlk (by rw [cell_of_blk hn]; simp [hcl]) (frozen_of_row _ _ _ _ _ hn) hc4 hit)).mono ?_
      rintro e w' (⟨hall, h1, h2⟩ | ⟨hall, rfl, h2, h3⟩)
      · exact same 65 e w' (by decide) (by unfold closeE; rw [hf]; simp [hcl, hall]) ⟨h1, h2⟩
      · have hE : closeE L a.name = 0 := by unfold closeE; rw [hf]; simp [hcl, hall]
        unfold closeL
        rw [hE, if_pos rfl]
        exact ⟨rfl, F, ⟨mb, rv, nb, kv, ps, hcr.shut ha h2 h3⟩, h2.mono fun k e => by subst e; exact hcr.fN a ha, fun k hk => .inl hk⟩
end Go.Proofs.YthbiepgpflpfoaaDoor
