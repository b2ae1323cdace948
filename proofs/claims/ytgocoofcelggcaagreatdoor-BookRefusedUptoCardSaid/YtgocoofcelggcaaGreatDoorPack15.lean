/- Base: what it tells is what the books hold. Printed by gen_base2.py. -/
import Derived.Test.YtgocoofcelggcaaGreatDoorPack14
import Derived.Deep.RegionHeld3
namespace Go.Proofs.YtgocoofcelggcaaGreatDoor
theorem qa15 {T : Type} (l : List T) (i : Nat) (a : T) : l.toArray.setIfInBounds i a = (l.set i a).toArray := List.setIfInBounds_toArray l i a
theorem qb15 {T : Type} {x : T} {xs : List T} {a : T} : (x :: xs).set 0 a = a :: xs := List.set_cons_zero
theorem qc15 {T : Type} {x : T} {xs : List T} {i : Nat} {a : T} : (x :: xs).set (i + 1) a = x :: xs.set i a := List.set_cons_succ
theorem qd15 {T : Type} {xs : List T} {i : Nat} (h : i < xs.toArray.size) : xs.toArray[i] = xs[i]'(by simpa using h) := List.getElem_toArray h
theorem qe15 {T : Type} (a : T) (ys : List T) (i : Nat) (h : i + 1 < (a :: ys).length) : (a :: ys)[i + 1] = ys[i]'(by simpa using h) := List.getElem_cons_succ a ys i h
theorem qf15 {T : Type} (a : T) (ys : List T) (h : 0 < (a :: ys).length) : (a :: ys)[0] = a := List.getElem_cons_zero a ys h
theorem tk15 {P : Program} {ops : Array Oper} {Q : Exit → Act → World → Prop} {md : Region.Mode} {S : World → Prop} {n i : Nat} {oi : Oper} {v : Value} {fuel : Nat} {listed : Array Bool} {a : Act} {w : World} (hi : ops[i]? = some oi)
    (hy : ∀ w, S w → (execOp a.eval oi).run P w = .ok (.value v) w) (hS : S w) (h : wpAnyN P md ops Q S n fuel (listed.setIfInBounds i true) (a.put oi.dst v) w)
    (hs : Region.noSelect ops = true := by kernel_rfl) (hf : Region.free md ops listed i = true := by kernel_rfl) (hr : (Region.ready md ops listed).contains i = true := by kernel_rfl) (hk : sinkN md ops n i = true := by kernel_rfl)
    (hw : Region.wanted oi (yielded ops a.tmps) = true := by kernel_rfl) (hQ : ∀ c a w, Q (.panic c) (a.put oi.dst v) w → Q (.panic c) a w := by exact fun _ _ _ h => h) : wpAnyN P md ops Q S n (fuel + 1) listed a w :=
  wpAnyN_take hi hs hf hr hk hQ (Or.inl ⟨hw, hy⟩) hS h
open Go.RowKit
set_option linter.unusedVariables false
set_option linter.unusedSimpArgs false

section
variable {P : Program} {ops : Array Oper} {Q : Exit → Act → World → Prop} {md : Region.Mode} {S : World → Prop} {n : Nat}
/-- Two may come up: either way. -/
theorem wpAnyN_step2 {i j : Nat} {oi oj : Oper} {fuel : Nat} {listed : Array Bool} {a : Act} {w : World} (hr : Region.ready md ops listed = [i, j]) (hi : ops[i]? = some oi) (hj : ops[j]? = some oj)
    (h1 : ∀ K' : Act → World → Prop, Shut (∀ a w, (i < n → S w) → wpAnyN P md ops Q S n fuel (listed.setIfInBounds i true) a w → K' a w) → if Region.wanted oi (yielded ops a.tmps) = true then Oper.wp P oi a w K' Q else K' (a.put oi.dst undef) w)
    (h2 : ∀ K' : Act → World → Prop, Shut (∀ a w, (j < n → S w) → wpAnyN P md ops Q S n fuel (listed.setIfInBounds j true) a w → K' a w) → if Region.wanted oj (yielded ops a.tmps) = true then Oper.wp P oj a w K' Q else K' (a.put oj.dst undef) w) :
    wpAnyN P md ops Q S n (fuel + 1) listed a w :=
  ⟨fun h0 => (by rw [hr] at h0; cases h0), fun q hq => by
    rw [hr] at hq
    rcases List.mem_cons.1 hq with rfl | hq
    · exact wpOp_step hi fun K' hK => h1 K' fun a w x y => hK a w ⟨x, y⟩
    · rw [List.mem_singleton] at hq
      subst hq
      exact wpOp_step hj fun K' hK => h2 K' fun a w x y => hK a w ⟨x, y⟩⟩
end

theorem acc_form {B : Nat} {w : World} {L : List Acct} {v : Value} (h : AccRow B w L v) : ∃ A c, v = .slice A L.length c := by
  cases h with
  | nil h => exact ⟨none, 0, by rw [h]; rfl⟩
  | row b c h1 h2 => exact ⟨_, _, rfl⟩
theorem accRow_mono {B B' : Nat} {w : World} {L : List Acct} {v : Value} (h : AccRow B w L v) (hb : B' ≤ B) : AccRow B' w L v := by
  cases h with
  | nil h => exact .nil h
  | row b c h1 h2 => exact .row b c (by omega) h2
theorem acc_lt {B : Nat} {w : World} {L : List Acct} {v : Value} (h : AccRow B w L v) : ∀ k, v.ownBlock = some k → B ≤ k ∧ k < w.heap.size := fun k e => by
  cases h with
  | nil h => cases e
  | row b c h1 h2 =>
    obtain rfl : k = b := (Option.some.inj e).symm
    exact ⟨h1, h2.lt⟩
theorem acc_ne {w w' : World} {L : List Acct} {v : Value} {b : Nat} (h : AccRow w.heap.size w' L v) (hb : b < w.heap.size) : ∀ k, v.ownBlock = some k → k ≠ b := fun k e => by
  have := (acc_lt h k e).1; omega
theorem row_ne {w w' : World} {e s n : Nat} {xs : List Value} {v : Value} {b : Nat} (h : w'.ownsRow w.heap.size e s v n xs) (hb : b < w.heap.size) : ∀ k, v.ownBlock = some k → k ≠ b := fun k e => by
  have := (h.lt k e).1; omega
theorem acc_old {B b : Nat} {w : World} {L : List Acct} {v : Value} (h : AccRow B w L v) (hb : b = w.heap.size) : ∀ k, v.ownBlock = some k → k ≠ b := fun k e => by
  have := (acc_lt h k e).2; omega
theorem row_old {B b e s n : Nat} {w : World} {xs : List Value} {v : Value} (h : w.ownsRow B e s v n xs) (hb : b = w.heap.size) : ∀ k, v.ownBlock = some k → k ≠ b := fun k e => by
  have := (h.lt k e).2; omega
theorem acc_keep {B : Nat} {w w' : World} {L : List Acct} {v : Value} (h : AccRow B w L v) (hs : w.heap.size ≤ w'.heap.size) (hk : ∀ k, v.ownBlock = some k → w'.heap[k]? = w.heap[k]?) : AccRow B w' L v := by
  cases h with
  | nil h => exact .nil h
  | row b c h1 h2 =>
    have hb := hk b rfl
    have hc : ∀ i, w'.cell? ⟨b, i, none⟩ = w.cell? ⟨b, i, none⟩ := fun i => World.cell?_of_block hb
    exact .row b c h1 ⟨by have := h2.lt; omega, fun j hj => (hc _).trans (h2.c0 j hj), fun j hj => (hc _).trans (h2.c1 j hj), fun j hj => (hc _).trans (h2.c2 j hj), fun j hj => (hc _).trans (h2.c3 j hj)⟩
theorem one_flat (l : List ByteArray) : (l.map fun k => [Value.string k]).flatten = l.map .string := by
  induction l with
  | nil => rfl
  | cons k l ih => simp [ih]

section
variable {w : World} {F : Nat → Prop} {bb : Nat} {S : BookS}
theorem info_claim : (Tryz.prog.info? 92).map (fun i => (i.zero, i.size, i.bytes)) = some (some (.agg #[.string ByteArray.empty, .string ByteArray.empty, .int .i64 0, .int .i64 0, .int .i64 0]), 5, 56) := by kernel_rfl

/-- The base that is built: its cells. -/
def baseCs (S : BookS) (kV aV rV eV iV pV lV : Value) : Array Value := #[.int .i64 S.events, kV, aV, rV, eV, iV, pV, lV, .int .i64 S.lock]
structure EntInv (W1 : World) (B3 : Nat) (es : List EntryV) (cs : Value → Array Value) (i : Value) (wr : World) (k : Nat) : Prop where
  le : k ≤ es.length
  at_ : i = .int .i64 (k : Int)
  ex : ∃ A c lv, wr.heap[B3]? = some (.cells (cs (.slice A k c)) 50 (0, 0)) ∧ EntsAt W1.heap.size es k (.slice A k c) lv wr
  ch : Ch (fun q => q = B3) W1 wr
theorem entInv_open {W1 : World} {B3 : Nat} {es : List EntryV} {cs : Value → Array Value} {i : Value} {wr : World} (h : ∃ k, EntInv W1 B3 es cs i wr k) : ∃ k, k ≤ es.length ∧ i = .int .i64 ((k : Nat) : Int) ∧ ∃ A c lv, wr.heap[B3]? = some (.cells (cs (.slice A k c)) 50 (0, 0)) ∧ EntsAt W1.heap.size es k (.slice A k c) lv wr ∧ Ch (fun q => q = B3) W1 wr := by
  obtain ⟨k, h1, h2, ⟨A, c, lv, h3, h4⟩, h5⟩ := h
  exact ⟨k, h1, h2, A, c, lv, h3, h4, h5⟩
theorem lines_form {w : World} {R : Nat → Prop} {v : Value} {l : List LineV} (h : LinesAt w R v l) : ∃ A c, v = .slice A l.length c := by
  obtain ⟨A, c, hv, _⟩ := h
  exact ⟨A, c, by rw [hv, List.length_map]⟩
theorem ent_read {w : World} {B n c : Nat} {A : Option Addr} {es : List EntryV} {lv : Nat → Value} (h : w.ownsRow B 81 4 (.slice A n c) es.length (entCells es lv).flatten) (k : Nat) (hk : k < es.length) :
    ∃ ad, A = some ad ∧ ad.block < w.heap.size ∧ ∀ i u, (encEntry es[k] (lv k))[i]? = some u → w.cell? ((ad.add (k * 4)).add i) = some u := by
  have hl : (entCells es lv).length = es.length := by simp [entCells]
  have h1 := RowAt.of_own (R := fun _ => True) (B := B) (e := 81) (s := 4) (xs := entCells es lv) (by rw [hl]; exact h) (fun x hx => by
    unfold entCells at hx
    obtain ⟨i, hi, rfl⟩ := List.getElem_of_mem hx
    rw [List.getElem_mapIdx]
    rfl) fun _ _ => trivial
  obtain ⟨A', c', hv, hx⟩ := h1
  injection hv with h1 _ _
  subst h1
  obtain ⟨ad, e1, h1, _, h3⟩ := hx k (by rw [hl]; exact hk)
  refine ⟨ad, e1, h1, fun i u hu => h3 i u ?_⟩
  unfold entCells
  rw [List.getElem_mapIdx]
  exact hu
structure ClmInv (W1 : World) (B3 : Nat) (cl : List ClaimV) (cs : Value → Value → Array Value) (i : Value) (wr : World) (k : Nat) : Prop where
  le : k ≤ cl.length
  at_ : i = .int .i64 (k : Int)
  ex : ∃ A a xs D d ys m n, wr.heap[B3]? = some (.cells (cs (.slice A m a) (.slice D n d)) 50 (0, 0)) ∧ wr.ownsRow W1.heap.size 92 5 (.slice A m a) m xs ∧ wr.ownsRow W1.heap.size 92 5 (.slice D n d) n ys ∧ (∀ q, (Value.slice A m a).ownBlock = some q → (Value.slice D n d).ownBlock ≠ some q) ∧ m ≤ k ∧ n ≤ k ∧ ClmEq cl k m n xs ys
  ch : Ch (fun q => q = B3) W1 wr
theorem clmInv_open {W1 : World} {B3 : Nat} {cl : List ClaimV} {cs : Value → Value → Array Value} {i : Value} {wr : World} (h : ∃ k, ClmInv W1 B3 cl cs i wr k) : ∃ k, k ≤ cl.length ∧ i = .int .i64 ((k : Nat) : Int) ∧ ∃ A a xs D d ys m n, wr.heap[B3]? = some (.cells (cs (.slice A m a) (.slice D n d)) 50 (0, 0)) ∧ wr.ownsRow W1.heap.size 92 5 (.slice A m a) m xs ∧ wr.ownsRow W1.heap.size 92 5 (.slice D n d) n ys ∧ (∀ q, (Value.slice A m a).ownBlock = some q → (Value.slice D n d).ownBlock ≠ some q) ∧ m ≤ k ∧ n ≤ k ∧ ClmEq cl k m n xs ys ∧ Ch (fun q => q = B3) W1 wr := by
  obtain ⟨k, h1, h2, ⟨A, a, xs, D, d, ys, m, n, h3, h4, h5, h6, h7, h8, hq⟩, h9⟩ := h
  exact ⟨k, h1, h2, A, a, xs, D, d, ys, m, n, h3, h4, h5, h6, h7, h8, hq, h9⟩
theorem ptr_read {w : World} {B n c : Nat} {A : Option Addr} {e : TypeId} {cl : Nat → Nat} {N : Nat} (h : w.ownsRow B e 1 (.slice A n c) N (ptrsFrom cl N)) (k : Nat) (hk : k < N) :
    ∃ ad, A = some ad ∧ ad.block < w.heap.size ∧ w.cell? (ad.add k) = some (.pointer (some ⟨cl k, 0, none⟩)) := by
  have hpl : ((ptrsFrom cl N).map fun p => [p]).length = N := by simp [ptrsFrom]
  have hfl : ((ptrsFrom cl N).map fun p => [p]).flatten = ptrsFrom cl N := by
    generalize ptrsFrom cl N = l
    induction l with
    | nil => rfl
    | cons x l ih => simp [ih]
  have h1 := RowAt.of_own (R := fun _ => True) (B := B) (e := e) (s := 1) (xs := (ptrsFrom cl N).map fun p => [p]) (by rw [hpl, hfl]; exact h) (fun x hx => by obtain ⟨z, _, rfl⟩ := List.mem_map.1 hx; rfl) fun _ _ => trivial
  obtain ⟨A', c', hv, hx⟩ := h1
  injection hv with h1 _ _
  subst h1
  obtain ⟨ad, e1, h1, _, h3⟩ := hx k (by rw [hpl]; exact hk)
  rw [List.getElem_map, Nat.mul_one] at h3
  have hpk : (ptrsFrom cl N)[k]'(by simp [ptrsFrom]; exact hk) = .pointer (some ⟨cl k, 0, none⟩) := by simp [ptrsFrom, ptrV]
  rw [hpk] at h3
  exact ⟨ad, e1, h1, h3 0 _ rfl⟩
theorem clm_one (a b : ByteArray) (c d e : Int) : ∀ u ∈ [Value.string a, .string b, .int .i64 c, .int .i64 d, .int .i64 e], u.oneCell' = true := by
  intro u hu
  simp at hu
  rcases hu with rfl | rfl | rfl | rfl | rfl <;> rfl

set_option maxRecDepth 100000 in
set_option maxHeartbeats 16000000 in
theorem Base_all (h : BookAt w F bb S) (ho : OkS S) :
    Calls Tryz.prog 19 #[ptrV bb] w fun en w' => ∃ kV aV rV eV iV pV lV lv, en = .returned (baseV S kV aV rV eV iV pV lV) ∧ BaseP w' (fun q => w.heap.size ≤ q) kV aV rV eV iV pV lV lv S ∧ Below w.heap.size w w' := by
  obtain ⟨ie, hie, hez0, hez1, hez2⟩ := info_parts info_entry
  obtain ⟨ic, hic, hcz0, hcz1, hcz2⟩ := info_parts info_claim
  obtain ⟨ρ, p, hp, hF⟩ := h
  have hbp : ∀ W, Below w.heap.size w W → BookP W ρ bb S p := fun W hb => hp.keep hb.size fun k hl _ => hb.block k hl
  have hs : ∀ W, Below w.heap.size w W → W.cell? ⟨bb, 0, none⟩ = some (.int .i64 S.events) ∧ W.cell? ⟨bb, 2, none⟩ = some p.kV ∧ W.cell? ⟨bb, 1, none⟩ = some (.pointer (some ⟨p.cb, 0, none⟩)) ∧ W.cell? ⟨bb, 4, none⟩ = some p.rV ∧ W.cell? ⟨bb, 11, none⟩ = some p.aV ∧ W.cell? ⟨bb, 12, none⟩ = some (.int .i64 S.lock) := fun W hb => ⟨(hbp W hb).c0, (hbp W hb).c2, (hbp W hb).c1, (hbp W hb).c4, (hbp W hb).c11, (hbp W hb).c12⟩
  have e0 := ho.ev0
  have e1 := ho.ev1
  have hck : ∀ W, Below w.heap.size w W → Calls Tryz.prog 33 #[p.kV] W fun e w' => ∃ rv, e = .returned rv ∧ w'.ownsRow W.heap.size 9 1 rv S.keys.length (S.keys.map .string) ∧ Below W.heap.size W w' := fun W hb => by
    have h1 := clone_str (w := W) (xs := S.keys.map fun k => [Value.string k]) (RowAt.of_own (R := fun _ => True) (B := 0) (e := 9) (by rw [List.length_map, one_flat]; exact (hbp W hb).keys.own) (fun x hx => by obtain ⟨z, _, rfl⟩ := List.mem_map.1 hx; rfl) fun _ _ => trivial)
      (fun x hx => by obtain ⟨z, _, rfl⟩ := List.mem_map.1 hx; rfl) (fun x hx u hu => by obtain ⟨z, _, rfl⟩ := List.mem_map.1 hx; rw [List.mem_singleton] at hu; subst hu; rfl) (by rw [List.length_map]; have := ho.keysLe; omega)
    rw [List.length_map, one_flat] at h1
    exact h1
  have hca : ∀ W, Below w.heap.size w W → Calls Tryz.prog 34 #[.pointer (some ⟨p.cb, 0, none⟩)] W fun e w' => ∃ v, e = .returned v ∧ AccRow W.heap.size w' S.chart v ∧ Below W.heap.size W w' := fun W hb => by
    obtain ⟨Fc, hc, _⟩ := (hbp W hb).chart
    exact Accounts_any hc ho.chart
  have hcr : ∀ W, Below w.heap.size w W → Calls Tryz.prog 35 #[p.rV] W fun e w' => ∃ rv, e = .returned rv ∧ w'.ownsRow W.heap.size 39 9 rv S.rows.length (S.rows.map encPost).flatten ∧ Below W.heap.size W w' := fun W hb => by
    have h1 := clone_post (w := W) (row_posts (hbp W hb).rows.own) (posts_len _) (posts_one _) (by rw [List.length_map]; have := ho.rowsLe; omega)
    rw [List.length_map] at h1
    exact h1
  have hcl : ∀ W, Below w.heap.size w W → Calls Tryz.prog 36 #[p.aV] W fun e w' => ∃ rv, e = .returned rv ∧ w'.ownsRow W.heap.size 87 4 rv S.allots.length (S.allots.map encAllot).flatten ∧ Below W.heap.size W w' := fun W hb => by
    have h1 := clone_allot (w := W) (xs := S.allots.map encAllot) (RowAt.of_own (R := fun _ => True) (B := 0) (e := 87) (by rw [List.length_map]; exact (hbp W hb).allots.own) (fun x hx => by obtain ⟨z, _, rfl⟩ := List.mem_map.1 hx; rfl) fun _ _ => trivial)
      (fun x hx => by obtain ⟨z, _, rfl⟩ := List.mem_map.1 hx; rfl) (fun x hx u hu => by obtain ⟨z, _, rfl⟩ := List.mem_map.1 hx; exact allot_one z u hu) (by rw [List.length_map]; have := ho.allLe; omega)
    rw [List.length_map] at h1
    exact h1
  have HBP := Lib.hid hbp
  have HS := Lib.hid hs
  have HCK := Lib.hid hck
  have HCA := Lib.hid hca
  have HCR := Lib.hid hcr
  have HCL := Lib.hid hcl
  have HOK := Lib.hid ho
  have HP := Lib.hid hp
  have HB := Lib.hid (((bel1 w (.cells #[.int .i64 0, .slice none 0 0, .slice none 0 0, .slice none 0 0, .slice none 0 0, .slice none 0 0, .slice none 0 0, .slice none 0 0, .int .i64 0] 50))).drew)
  have HZ2 := Lib.hid (World.alloc_heap_new w (.cells #[.int .i64 0, .slice none 0 0, .slice none 0 0, .slice none 0 0, .slice none 0 0, .slice none 0 0, .slice none 0 0, .slice none 0 0, .int .i64 0] 50))
  have hV0s : (w.alloc (.cells #[.int .i64 0, .slice none 0 0, .slice none 0 0, .slice none 0 0, .slice none 0 0, .slice none 0 0, .slice none 0 0, .slice none 0 0, .int .i64 0] 50)).drew.heap.size = w.heap.size + 1 := by show (w.alloc (.cells #[.int .i64 0, .slice none 0 0, .slice none 0 0, .slice none 0 0, .slice none 0 0, .slice none 0 0, .slice none 0 0, .slice none 0 0, .int .i64 0] 50)).heap.size = _; simp
  clear hbp hs hck hca hcr hcl ho hp
  unfold ptrV
  go_enter Tryz.func19, Tryz.ntmps19
  go_wp2
  have HZ0 : Hid ((w.alloc (.cells #[.int .i64 0, .slice none 0 0, .slice none 0 0, .slice none 0 0, .slice none 0 0, .slice none 0 0, .slice none 0 0, .slice none 0 0, .int .i64 0] 50)).drew.heap[w.heap.size]? = some (.cells #[.int .i64 0, .slice none 0 0, .slice none 0 0, .slice none 0 0, .slice none 0 0, .slice none 0 0, .slice none 0 0, .slice none 0 0, .int .i64 0] 50)) := Lib.hid HZ2.out
  refine wp_region_n (n := 30) (S := fun w' => w'.cell? ⟨bb, 0, none⟩ = some (.int .i64 S.events) ∧ w'.cell? ⟨bb, 2, none⟩ = some p.kV ∧ w'.cell? ⟨bb, 1, none⟩ = some (.pointer (some ⟨p.cb, 0, none⟩)) ∧ w'.cell? ⟨bb, 4, none⟩ = some p.rV ∧ w'.cell? ⟨bb, 11, none⟩ = some p.aV ∧ w'.cell? ⟨bb, 12, none⟩ = some (.int .i64 S.lock)) (by kernel_rfl) ?_
  generalize (w.alloc (.cells #[.int .i64 0, .slice none 0 0, .slice none 0 0, .slice none 0 0, .slice none 0 0, .slice none 0 0, .slice none 0 0, .slice none 0 0, .int .i64 0] 50)).drew = V0 at HB hV0s HZ0 ⊢
  have HV0S := Lib.hid hV0s
  clear hV0s
  have hHeld := HS.out _ HB.out
  have HBV := Lib.hid (Below.refl V0.heap.size V0)
  refine tk15 (i := 0) (v := ?_) rfl ?y1 hHeld ?_
  case y1 => intro w0 hSw; (try dsimp only at hSw); go_simp; (try with_reducible rfl)
  try simp only [Act.put, qa15, qb15, qc15, qd15, qe15, qf15]
  refine tk15 (i := 1) (v := ?_) rfl ?y2 hHeld ?_
  case y2 => intro w0 hSw; (try dsimp only at hSw); go_simp; (try with_reducible rfl)
  try simp only [Act.put, qa15, qb15, qc15, qd15, qe15, qf15]
  refine tk15 (i := 2) (v := ?_) rfl ?y3 hHeld ?_
  case y3 => intro w0 hSw; (try dsimp only at hSw); go_simp; (try with_reducible rfl)
  try simp only [Act.put, qa15, qb15, qc15, qd15, qe15, qf15]
  refine tk15 (i := 3) (v := ?_) rfl ?y4 hHeld ?_
  case y4 => intro w0 hSw; (try dsimp only at hSw); go_simp; (try with_reducible rfl)
  try simp only [Act.put, qa15, qb15, qc15, qd15, qe15, qf15]
  refine tk15 (i := 4) (v := ?_) rfl ?y5 hHeld ?_
  case y5 => intro w0 hSw; (try dsimp only at hSw); go_simp; (try with_reducible rfl)
  try simp only [Act.put, qa15, qb15, qc15, qd15, qe15, qf15]
  refine tk15 (i := 5) (v := ?_) rfl ?y6 hHeld ?_
  case y6 => intro w0 hSw; (try dsimp only at hSw); go_simp; (try with_reducible rfl)
  try simp only [Act.put, qa15, qb15, qc15, qd15, qe15, qf15]
  refine tk15 (i := 6) (v := ?_) rfl ?y7 hHeld ?_
  case y7 => intro w0 hSw; (try dsimp only at hSw); go_simp; (try with_reducible rfl)
  try simp only [Act.put, qa15, qb15, qc15, qd15, qe15, qf15]
  refine tk15 (i := 7) (v := ?_) rfl ?y8 hHeld ?_
  case y8 => intro w0 hSw; (try dsimp only at hSw); go_simp; (try with_reducible rfl)
  try simp only [Act.put, qa15, qb15, qc15, qd15, qe15, qf15]
  refine tk15 (i := 9) (v := ?_) rfl ?y9 hHeld ?_
  case y9 => intro w0 hSw; (try dsimp only at hSw); go_simp; (try with_reducible rfl)
  try simp only [Act.put, qa15, qb15, qc15, qd15, qe15, qf15]
  refine tk15 (i := 10) (v := ?_) rfl ?y10 hHeld ?_
  case y10 => intro w0 hSw; (try dsimp only at hSw); go_simp; (try with_reducible rfl)
  try simp only [Act.put, qa15, qb15, qc15, qd15, qe15, qf15]
  refine tk15 (i := 11) (v := ?_) rfl ?y11 hHeld ?_
  case y11 => intro w0 hSw; (try dsimp only at hSw); go_simp; (try with_reducible rfl)
  try simp only [Act.put, qa15, qb15, qc15, qd15, qe15, qf15]
  refine tk15 (i := 12) (v := ?_) rfl ?y12 hHeld ?_
  case y12 => intro w0 hSw; (try dsimp only at hSw); go_simp; (try with_reducible rfl)
  try simp only [Act.put, qa15, qb15, qc15, qd15, qe15, qf15]
  refine tk15 (i := 14) (v := ?_) rfl ?y13 hHeld ?_
  case y13 => intro w0 hSw; (try dsimp only at hSw); go_simp; (try with_reducible rfl)
  try simp only [Act.put, qa15, qb15, qc15, qd15, qe15, qf15]
  refine tk15 (i := 15) (v := ?_) rfl ?y14 hHeld ?_
  case y14 => intro w0 hSw; (try dsimp only at hSw); go_simp; (try with_reducible rfl)
  try simp only [Act.put, qa15, qb15, qc15, qd15, qe15, qf15]
  refine tk15 (i := 16) (v := ?_) rfl ?y15 hHeld ?_
  case y15 => intro w0 hSw; (try dsimp only at hSw); go_simp; (try with_reducible rfl)
  try simp only [Act.put, qa15, qb15, qc15, qd15, qe15, qf15]
  refine tk15 (i := 17) (v := ?_) rfl ?y16 hHeld ?_
  case y16 => intro w0 hSw; (try dsimp only at hSw); go_simp; (try with_reducible rfl)
  try simp only [Act.put, qa15, qb15, qc15, qd15, qe15, qf15]
  refine tk15 (i := 19) (v := ?_) rfl ?y17 hHeld ?_
  case y17 => intro w0 hSw; (try dsimp only at hSw); go_simp; (try with_reducible rfl)
  try simp only [Act.put, qa15, qb15, qc15, qd15, qe15, qf15]
  refine tk15 (i := 20) (v := ?_) rfl ?y18 hHeld ?_
  case y18 => intro w0 hSw; (try dsimp only at hSw); go_simp; (try with_reducible rfl)
  try simp only [Act.put, qa15, qb15, qc15, qd15, qe15, qf15]
  refine tk15 (i := 21) (v := ?_) rfl ?y19 hHeld ?_
  case y19 => intro w0 hSw; (try dsimp only at hSw); go_simp; (try with_reducible rfl)
  try simp only [Act.put, qa15, qb15, qc15, qd15, qe15, qf15]
  refine tk15 (i := 22) (v := ?_) rfl ?y20 hHeld ?_
  case y20 => intro w0 hSw; (try dsimp only at hSw); go_simp; (try with_reducible rfl)
  try simp only [Act.put, qa15, qb15, qc15, qd15, qe15, qf15]
  refine tk15 (i := 24) (v := ?_) rfl ?y21 hHeld ?_
  case y21 => intro w0 hSw; (try dsimp only at hSw); go_simp; (try with_reducible rfl)
  try simp only [Act.put, qa15, qb15, qc15, qd15, qe15, qf15]
  refine tk15 (i := 25) (v := ?_) rfl ?y22 hHeld ?_
  case y22 => intro w0 hSw; (try dsimp only at hSw); go_simp; (try with_reducible rfl)
  try simp only [Act.put, qa15, qb15, qc15, qd15, qe15, qf15]
  refine tk15 (i := 26) (v := ?_) rfl ?y23 hHeld ?_
  case y23 => intro w0 hSw; (try dsimp only at hSw); go_simp; (try with_reducible rfl)
  try simp only [Act.put, qa15, qb15, qc15, qd15, qe15, qf15]
  refine tk15 (i := 27) (v := ?_) rfl ?y24 hHeld ?_
  case y24 => intro w0 hSw; (try dsimp only at hSw); go_simp; (try with_reducible rfl)
  try simp only [Act.put, qa15, qb15, qc15, qd15, qe15, qf15]
  rename_i Qp Kp Kh
  have HKT : ∀ (B3 : Nat) (kA : Option Addr) (kc : Nat) (aA : Option Addr) (ac : Nat) (rA : Option Addr) (rc : Nat) (lA : Option Addr) (lc : Nat) (W1 : World), w.heap.size < B3 →
      W1.heap[B3]? = some (.cells (baseCs S (.slice kA S.keys.length kc) (.slice aA S.chart.length ac) (.slice rA S.rows.length rc) (.slice none 0 0) (.slice none 0 0) (.slice none 0 0) (.slice lA S.allots.length lc)) 50 (0, 0)) → Below w.heap.size w W1 →
      W1.heap[w.heap.size]? = some (.cells #[.int .i64 0, .slice none 0 0, .slice none 0 0, .slice none 0 0, .slice none 0 0, .slice none 0 0, .slice none 0 0, .slice none 0 0, .int .i64 0] 50 (0, 0)) → W1.ownsRow w.heap.size 9 1 (.slice kA S.keys.length kc) S.keys.length (S.keys.map .string) → AccRow w.heap.size W1 S.chart (.slice aA S.chart.length ac) → W1.ownsRow w.heap.size 39 9 (.slice rA S.rows.length rc) S.rows.length (S.rows.map encPost).flatten → W1.ownsRow w.heap.size 87 4 (.slice lA S.allots.length lc) S.allots.length (S.allots.map encAllot).flatten →
      (∀ k, (Value.slice kA S.keys.length kc).ownBlock = some k → k ≠ B3 ∧ k ≠ w.heap.size) →
      (∀ k, (Value.slice aA S.chart.length ac).ownBlock = some k → k ≠ B3 ∧ k ≠ w.heap.size) → (∀ k, (Value.slice rA S.rows.length rc).ownBlock = some k → k ≠ B3 ∧ k ≠ w.heap.size) → (∀ k, (Value.slice lA S.allots.length lc).ownBlock = some k → k ≠ B3 ∧ k ≠ w.heap.size) →
      Exit.then Kp Qp Exit.normal { tmps := #[Value.pointer (some ⟨bb, 0, none⟩), undef, .pointer (some ⟨w.heap.size, 0, none⟩), .pointer (some ⟨B3, 0, none⟩), undef, undef, undef, undef, .pointer (some ⟨bb, 0, none⟩), .pointer (some ⟨bb, 0, none⟩), .pointer (some ⟨bb, 0, none⟩), .int .i64 S.events, .pointer (some ⟨bb, 0, none⟩), .pointer (some ⟨bb, 0, none⟩), .pointer (some ⟨bb, 2, none⟩), p.kV, .slice kA S.keys.length kc, .pointer (some ⟨bb, 0, none⟩), .pointer (some ⟨bb, 0, none⟩), .pointer (some ⟨bb, 1, none⟩), .pointer (some ⟨p.cb, 0, none⟩), .slice aA S.chart.length ac, .pointer (some ⟨bb, 0, none⟩), .pointer (some ⟨bb, 0, none⟩), .pointer (some ⟨bb, 4, none⟩), p.rV, .slice rA S.rows.length rc, .pointer (some ⟨bb, 0, none⟩), .pointer (some ⟨bb, 0, none⟩), .pointer (some ⟨bb, 11, none⟩), p.aV, .slice lA S.allots.length lc, .pointer (some ⟨bb, 0, none⟩), .pointer (some ⟨bb, 0, none⟩), .pointer (some ⟨bb, 12, none⟩), .int .i64 S.lock, .agg #[.int .i64 S.events, .slice kA S.keys.length kc, .slice aA S.chart.length ac, .slice rA S.rows.length rc, .slice none 0 0, .slice none 0 0, .slice none 0 0, .slice lA S.allots.length lc, .int .i64 S.lock], undef, undef, undef, undef, undef, undef, undef, undef, undef, undef, undef, undef, undef, undef, undef, undef, undef, undef, undef, undef, undef, undef, undef, undef, undef, undef, undef, undef, undef, undef, undef, undef, undef, undef, undef, undef, undef, undef, undef, undef, undef, undef, undef, undef, undef, undef, undef, undef, undef, undef, undef, undef, undef], defers := [] } W1 := by
    intro B3 kA kc aA ac rA rc lA lc W1 hB3l h9 hb1 hzz hkey hacc hrow halt hkb hab hrb hlb
    have HKEY1 := Lib.hid hkey
    have HALT1 := Lib.hid halt
    have HKB := Lib.hid hkb
    have HLB := Lib.hid hlb
    have HACC1 := Lib.hid hacc
    have HROW1 := Lib.hid hrow
    have HAB := Lib.hid hab
    have HRB := Lib.hid hrb
    have HP1 := Lib.hid (HBP.out W1 hb1)
    have HB1 := Lib.hid hb1
    have HZ1 := Lib.hid hzz
    have hBW : B3 < W1.heap.size := heap_lt h9
    have HH1 := Lib.hid h9
    have hwl : w.heap.size ≤ W1.heap.size := hb1.size
    clear h9 hb1 hzz hkey hacc hrow halt hkb hab hrb hlb
    obtain ⟨eA, ec, hef⟩ := own_form HP1.out.entries.own
    have hel : S.entries.length ≤ 1000 := by have := HOK.out.entLe; omega
    have c7 := HP1.out.c7
    rw [hef] at c7
    go_wp2
    go_loopw [42] (fun i wr => ∃ k : Nat, EntInv W1 B3 S.entries (fun ev => baseCs S (.slice kA S.keys.length kc) (.slice aA S.chart.length ac) (.slice rA S.rows.length rc) ev (.slice none 0 0) (.slice none 0 0) (.slice lA S.allots.length lc)) i wr k) (fun i _ => S.entries.length - (intOf i).toNat)
    case atStart => exact ⟨0, Nat.zero_le _, rfl, ⟨none, 0, fun _ => .slice none 0 0, HH1.out, EntsAt.zero _ _ _ _⟩, Ch.refl _ _⟩
    case round =>
      obtain ⟨k, hk, rfl, ⟨A, c, clv, hd, hea, hch⟩⟩ := entInv_open hrel
      have hown := hea.own
      have HEA := Lib.hid hea
      clear hea
      have hbr : Below w.heap.size w wr := HB1.out.trans (hch.toBelow hwl fun q hq => by have := hq; omega)
      have hcs1 := hch.size
      by_cases hlt : k < S.entries.length
      · have hpW := HBP.out wr hbr
        obtain ⟨ad, had, hab, hcs⟩ := ent_read (hef ▸ hpW.entries.own) k hlt
        have hLk := hpW.lines k hlt
        obtain ⟨lA', lc', hlf⟩ := lines_form hLk
        have hll : S.entries[k].lines.length ≤ 12 := by
          have := HOK.out.entFit _ (List.getElem_mem hlt)
          unfold fitB at this
          simp at this
          exact this.2.2
        obtain ⟨x, hx⟩ : ∃ x, x = S.entries[k] := ⟨_, rfl⟩
        rw [← hx] at hcs hLk hlf hll
        have HXX := Lib.hid hx
        rw [hlf] at hcs hLk
        cases had
        have g0 : wr.cell? (ad.add (k * 4)) = some (.string x.key) := hcs 0 _ rfl
        have g1 : wr.cell? ⟨(ad.add (k * 4)).block, (ad.add (k * 4)).off + 1, none⟩ = some (.int .i64 x.day) := hcs 1 _ rfl
        have g2 : wr.cell? ⟨(ad.add (k * 4)).block, (ad.add (k * 4)).off + 2, none⟩ = some (.slice lA' x.lines.length lc') := hcs 2 _ rfl
        have g3 : wr.cell? ⟨(ad.add (k * 4)).block, (ad.add (k * 4)).off + 3, none⟩ = some (.string x.void) := hcs 3 _ rfl
        have hbx := bel1 wr (.cells #[.string x.key, .int .i64 x.day, .slice lA' x.lines.length lc', .string x.void] 81)
        have hnx := World.alloc_heap_new wr (.cells #[.string x.key, .int .i64 x.day, .slice lA' x.lines.length lc', .string x.void] 81)
        have hcln := clone_line (w := wr.alloc (.cells #[.string x.key, .int .i64 x.day, .slice lA' x.lines.length lc', .string x.void] 81)) (hLk.below hbx) (lines_len _) (lines_one _) (by rw [List.length_map]; omega)
        rw [List.length_map] at hcln
        have HBX := Lib.hid hbx
        have HNX := Lib.hid hnx
        have HOWN := Lib.hid hown
        have HD := Lib.hid hd
        have HCH := Lib.hid hch
        have hBr := heap_lt hd
        clear hpW hcs hLk hlf hx hbx hnx hown hd hch hbr hll
        go_wp2_with (go_at_call 37; refine hcln.mono ?_)
        rintro en wc ⟨cv, rfl, hcv, hbc⟩
        obtain ⟨cA, cc, hcf⟩ := own_form hcv
        subst hcf
        have hcs2 := hbc.size
        rw [World.size_alloc] at hcs2
        have hx2 := (hbc.block wr.heap.size (by simp)).trans HNX.out
        have hd2 := (hbc.block B3 (by simp; omega)).trans ((Below.heap_alloc wr _ B3 hBr).trans HD.out)
        have x0 : wc.cell? ⟨wr.heap.size, 0, none⟩ = some (.string x.key) := by rw [cell_of_blk hx2]; rfl
        have x1 : wc.cell? ⟨wr.heap.size, 1, none⟩ = some (.int .i64 x.day) := by rw [cell_of_blk hx2]; rfl
        have x2 : wc.cell? ⟨wr.heap.size, 2, none⟩ = some (.slice lA' x.lines.length lc') := by rw [cell_of_blk hx2]; rfl
        have x3 : wc.cell? ⟨wr.heap.size, 3, none⟩ = some (.string x.void) := by rw [cell_of_blk hx2]; rfl
        have fx2 := frozen_blk hx2 2
        have d4 : wc.cell? ⟨B3, 4, none⟩ = some (.slice A k c) := by rw [cell_of_blk hd2]; rfl
        have hn1 : ¬ (B3 = wr.heap.size) := by omega
        have hn2 : ¬ (wr.heap.size = B3) := by omega
        have hbcW : Below wr.heap.size wr wc := HBX.out.trans (hbc.mono (by simp))
        have HCV := Lib.hid hcv
        have hcl9 := hcv.mono (base' := wr.heap.size + 1) (by simp)
        have HBC := Lib.hid hbcW
        have HD2 := Lib.hid hd2
        have hsw : (wc.setCell ⟨wr.heap.size, 2, none⟩ (.slice cA x.lines.length cc)).heap.size = wc.heap.size := by simp [World.setCell]
        have hO2 := ownsRow_keep (w' := wc.setCell ⟨wr.heap.size, 2, none⟩ (.slice cA x.lines.length cc)) (own_below HOWN.out hbcW) fun q e => Below.heap_setCell _ _ _ _ (by have := (HOWN.out.lt q e).2; show q ≠ wr.heap.size; omega)
        have HO2 := Lib.hid (hO2.alloc (.cells #[.string x.key, .int .i64 x.day, .slice cA x.lines.length cc, .string x.void] 81))
        clear hcv hbc hcln hx2 hd2 g0 g1 g2 g3 hbcW hO2
        go_wp2_with (at_builtin; refine wpList_append_lies _ rfl _ _ 46 rfl W1.heap.size 81 ie (.agg #[.string ByteArray.empty, .int .i64 0, .slice none 0 0, .string ByteArray.empty]) 4 64 Tryz.underlying46 hie hez0 hez1 hez2 rfl (by decide) _ _ _ rfl HO2.out ⟨wc.heap.size, 0, none⟩ 1 1 [.string x.key, .int .i64 x.day, .slice cA x.lines.length cc, .string x.void] rfl rfl ?c1 ?c2 (by decide) ?c3 ?c4 ?c5 _ rfl ?_)
        case c1 =>
          have h := World.news_of_block (World.alloc_heap_new (wc.setCell ⟨wr.heap.size, 2, none⟩ (.slice cA x.lines.length cc)) (.cells #[.string x.key, .int .i64 x.day, .slice cA x.lines.length cc, .string x.void] 81))
          rw [hsw] at h
          exact h
        case c2 =>
          intro u hu
          simp at hu
          rcases hu with rfl | rfl | rfl | rfl <;> rfl
        case c3 => unfold maxLen; omega
        case c4 => omega
        case c5 => rw [World.size_alloc, hsw]; omega
        intro g cap w5 hown5 hgrow5 hat5 hlt5
        have hd5 : w5.heap[B3]? = _ := (hgrow5.block B3 (by simp; omega) (fun e => by have := (HOWN.out.lt _ e.symm).1; omega)).trans ((Below.heap_alloc _ _ B3 (by rw [hsw]; omega)).trans ((Below.heap_setCell _ _ _ _ hn1).trans HD2.out))
        have d5 : w5.cell? ⟨B3, 4, none⟩ = some (.slice A k c) := by rw [cell_of_blk hd5]; rfl
        have f5 := frozen_blk hd5 4
        have hg3 : g ≠ B3 := fun e => by
          subst e
          rcases hat5 with h | h
          · have := (HOWN.out.lt _ h).1; omega
          · (try simp at h)
            omega
        have hfin := heap_setCell_same (i := 4) hd5 (.slice (some ⟨g, 0, none⟩) (k + 1) cap)
        have hnew := ownsRow_keep (w' := w5.setCell ⟨B3, 4, none⟩ (.slice (some ⟨g, 0, none⟩) (k + 1) cap)) hown5 fun q e => Below.heap_setCell _ _ _ _ (by obtain rfl : q = g := (Option.some.inj e).symm; exact hg3)
        have hc1 := (HCH.out.below HBC.out).setCell (p := ⟨wr.heap.size, 2, none⟩) (Or.inr hcs1) (.slice cA x.lines.length cc)
        have hc2 := (hc1.alloc (.cells #[.string x.key, .int .i64 x.day, .slice cA x.lines.length cc, .string x.void] 81)).grown hgrow5 fun q e => Or.inr (HOWN.out.lt q e).1
        have hc3 := hc2.setCell (p := ⟨B3, 4, none⟩) (Or.inl rfl) (.slice (some ⟨g, 0, none⟩) (k + 1) cap)
        have hgc : (Value.slice cA x.lines.length cc).ownBlock ≠ some g := fun e => by
          have hq := hcl9.lt g e
          rcases hat5 with h | h
          · have := (HOWN.out.lt g h).2; omega
          · have h' : g = _ := h
            (try rw [World.size_alloc, hsw] at h')
            omega
        have hfr : ∀ q, q < wr.heap.size → W1.heap.size ≤ q → (Value.slice A k c).ownBlock ≠ some q → (w5.setCell ⟨B3, 4, none⟩ (.slice (some ⟨g, 0, none⟩) (k + 1) cap)).heap[q]? = wr.heap[q]? := fun q h1 h2 h3 =>
          (Below.heap_setCell _ _ _ _ (by show q ≠ B3; omega)).trans ((hgrow5.block q (by rw [World.size_alloc, hsw]; omega) fun e => h3 e.symm).trans ((Below.heap_alloc _ _ q (by rw [hsw]; omega)).trans ((Below.heap_setCell _ _ _ _ (by show q ≠ wr.heap.size; omega)).trans (HBC.out.block q h1))))
        have hcv9 := ownsRow_keep (w' := w5.setCell ⟨B3, 4, none⟩ (.slice (some ⟨g, 0, none⟩) (k + 1) cap)) hcl9 fun q e => by
          have hq := hcl9.lt q e
          exact (Below.heap_setCell _ _ _ _ (by show q ≠ B3; omega)).trans ((hgrow5.block q (by rw [World.size_alloc, hsw]; omega) fun e2 => by have := (HOWN.out.lt q e2.symm).2; omega).trans ((Below.heap_alloc _ _ q (by rw [hsw]; omega)).trans (Below.heap_setCell _ _ _ _ (by show q ≠ wr.heap.size; omega))))
        have hs9 : wr.heap.size ≤ (w5.setCell ⟨B3, 4, none⟩ (.slice (some ⟨g, 0, none⟩) (k + 1) cap)).heap.size := by
          have h1 := hgrow5.size
          rw [World.size_alloc, hsw] at h1
          have e3 : (w5.setCell ⟨B3, 4, none⟩ (.slice (some ⟨g, 0, none⟩) (k + 1) cap)).heap.size = w5.heap.size := by simp [World.setCell]
          omega
        have hgx : (Value.slice A k c).ownBlock = some g ∨ wr.heap.size ≤ g := by
          rcases hat5 with h | h
          · exact .inl h
          · right
            have h' : g = _ := h
            (try rw [World.size_alloc, hsw] at h')
            omega
        have hst := HEA.out.step hlt (cv := .slice cA x.lines.length cc) (g := g) (cap := cap) (w9 := w5.setCell ⟨B3, 4, none⟩ (.slice (some ⟨g, 0, none⟩) (k + 1) cap)) hs9 hfr (by rw [← HXX.out]; exact hnew) hgx (by rw [← HXX.out]; exact hcv9.mono (by omega)) hgc hcs1
        have HF := Lib.hid (And.intro hfin (And.intro hst hc3))
        clear hfin hnew hc1 hc2 hc3 hgrow5 hown5 hat5 hgc hfr hcv9 hst hcl9 hs9 hgx
        go_wp2
        go_roundw
        case rel => exact ⟨k + 1, by omega, by go_num, ⟨some ⟨g, 0, none⟩, cap, _, HF.out.1, HF.out.2.1⟩, HF.out.2.2⟩
        case measure => simp [intOf]; omega
      · obtain rfl : k = S.entries.length := by omega
        have hpW := HBP.out wr hbr
        obtain ⟨oA, oc, hof⟩ := own_form hpW.order.own
        have c10 := hpW.c10
        rw [hof] at c10
        have hcn : S.claims.length ≤ 1000 := by have := HOK.out.claLe; omega
        have hd0 := hd
        have HZ7 := Lib.hid ((hch.block w.heap.size (by omega) (fun e => by have := hB3l; have e' : w.heap.size = B3 := e; omega)).trans HZ1.out)
        have HACC7 := Lib.hid (acc_keep (w' := wr) HACC1.out hcs1 fun q e => hch.block q (acc_lt HACC1.out q e).2 (HAB.out q e).1)
        have HROW7 := Lib.hid (ownsRow_keep (w' := wr) HROW1.out fun q e => hch.block q (HROW1.out.lt q e).2 (HRB.out q e).1)
        have HKEY7 := Lib.hid (ownsRow_keep (w' := wr) HKEY1.out fun q e => hch.block q (HKEY1.out.lt q e).2 (HKB.out q e).1)
        have HALT7 := Lib.hid (ownsRow_keep (w' := wr) HALT1.out fun q e => hch.block q (HALT1.out.lt q e).2 (HLB.out q e).1)
        have HB7 := Lib.hid hbr
        obtain ⟨W7, hW7⟩ : ∃ W7, W7 = wr := ⟨_, rfl⟩
        subst hW7
        have hwl7 : w.heap.size ≤ W7.heap.size := by omega
        have hBW7 : B3 < W7.heap.size := by omega
        clear hpW hown hch hbr
        go_wp2
        clear c10
        go_loopw [62] (fun i wr => ∃ k : Nat, ClmInv W7 B3 S.claims (fun iv pv => baseCs S (.slice kA S.keys.length kc) (.slice aA S.chart.length ac) (.slice rA S.rows.length rc) (.slice A S.entries.length c) iv pv (.slice lA S.allots.length lc)) i wr k) (fun i _ => S.claims.length - (intOf i).toNat)
        case atStart => exact ⟨0, Nat.zero_le _, rfl, ⟨none, 0, [], none, 0, [], 0, 0, hd0, World.ownsRow_nil _ _ _ _, World.ownsRow_nil _ _ _ _, (fun q e => by cases e), Nat.le_refl _, Nat.le_refl _, ClmEq.zero _⟩, Ch.refl _ _⟩
        case round =>
          clear hd0
          obtain ⟨k, hk, rfl, A', a, xs, D, d, ys, m, n, hd, hownA, hownD, hdist, hm, hn, heq, hch⟩ := clmInv_open hrel
          have HEQ := Lib.hid heq
          clear heq
          have hbr : Below w.heap.size w wr := HB7.out.trans (hch.toBelow hwl7 fun q hq => by have := hq; omega)
          have hcs1 := hch.size
          have hBr := heap_lt hd
          have HD := Lib.hid hd
          by_cases hlt : k < S.claims.length
          · have hpW := HBP.out wr hbr
            obtain ⟨ad, had, hab, hcs⟩ := ptr_read (hof ▸ hpW.order.own) k hlt
            have hcl := (hpW.claim k hlt).1
            have hrole := (hpW.claim k hlt).2
            have hq7w : p.cl k < w.heap.size := heap_lt (HP.out.claim k hlt).1
            cases had
            obtain ⟨y, hy⟩ : ∃ y, y = S.claims[k] := ⟨_, rfl⟩
            rw [← hy] at hcl
            have HYY := Lib.hid hy
            obtain ⟨q7, hq⟩ : ∃ q7, q7 = p.cl k := ⟨_, rfl⟩
            rw [← hq] at hcs hcl hq7w
            have hq7 : q7 < wr.heap.size := by omega
            have g6 : wr.cell? ⟨q7, 6, none⟩ = some (.bool y.pay) := by rw [cell_of_blk hcl]; rfl
            have HCL7 := Lib.hid hcl
            clear hpW hrole hy hq hcl hd
            obtain ⟨py, hpy⟩ : ∃ py, py = y.pay := ⟨_, rfl⟩
            rw [← hpy] at g6
            have HPY := Lib.hid hpy
            clear hpy
            cases py with
            | true =>
              have hS : ∀ W : World, W.heap[B3]? = wr.heap[B3]? → W.heap[q7]? = wr.heap[q7]? → W.cell? ⟨B3, 6, none⟩ = some (.slice D n d) ∧ W.cell? ⟨q7, 0, none⟩ = some (.string y.key) ∧ W.cell? ⟨q7, 1, none⟩ = some (.string y.account) ∧ W.cell? ⟨q7, 2, none⟩ = some (.int .i64 y.day) ∧ W.cell? ⟨q7, 3, none⟩ = some (.int .i64 y.due) ∧ W.cell? ⟨q7, 4, none⟩ = some (.int .i64 y.amount) := fun W e1 e2 => by
                have k1 := e1.trans HD.out
                have k2 := e2.trans HCL7.out
                exact ⟨by rw [cell_of_blk k1]; rfl, by rw [cell_of_blk k2]; rfl, by rw [cell_of_blk k2]; rfl, by rw [cell_of_blk k2]; rfl, by rw [cell_of_blk k2]; rfl, by rw [cell_of_blk k2]; rfl⟩
              go_wp2
              have hHeld : wr.drew.cell? ⟨B3, 6, none⟩ = some (.slice D n d) ∧ wr.drew.cell? ⟨q7, 0, none⟩ = some (.string y.key) ∧ wr.drew.cell? ⟨q7, 1, none⟩ = some (.string y.account) ∧ wr.drew.cell? ⟨q7, 2, none⟩ = some (.int .i64 y.day) ∧ wr.drew.cell? ⟨q7, 3, none⟩ = some (.int .i64 y.due) ∧ wr.drew.cell? ⟨q7, 4, none⟩ = some (.int .i64 y.amount) := hS wr.drew rfl rfl
              have hAl : ∀ o, (wr.drew.alloc o).cell? ⟨B3, 6, none⟩ = some (.slice D n d) ∧ (wr.drew.alloc o).cell? ⟨q7, 0, none⟩ = some (.string y.key) ∧ (wr.drew.alloc o).cell? ⟨q7, 1, none⟩ = some (.string y.account) ∧ (wr.drew.alloc o).cell? ⟨q7, 2, none⟩ = some (.int .i64 y.day) ∧ (wr.drew.alloc o).cell? ⟨q7, 3, none⟩ = some (.int .i64 y.due) ∧ (wr.drew.alloc o).cell? ⟨q7, 4, none⟩ = some (.int .i64 y.amount) := fun o => hS (wr.drew.alloc o) (Below.heap_alloc wr.drew o B3 hBr) (Below.heap_alloc wr.drew o q7 hq7)
              have HOX := Lib.hid (World.ownsRow.alloc (w := wr.drew) hownD (.cells #[.string y.key, .string y.account, .int .i64 y.day, .int .i64 y.due, .int .i64 y.amount] 92))
              refine wp_region_n (n := 9) (S := fun w' => w'.cell? ⟨B3, 6, none⟩ = some (.slice D n d) ∧ w'.cell? ⟨q7, 0, none⟩ = some (.string y.key) ∧ w'.cell? ⟨q7, 1, none⟩ = some (.string y.account) ∧ w'.cell? ⟨q7, 2, none⟩ = some (.int .i64 y.day) ∧ w'.cell? ⟨q7, 3, none⟩ = some (.int .i64 y.due) ∧ w'.cell? ⟨q7, 4, none⟩ = some (.int .i64 y.amount)) (by kernel_rfl) ?_
              refine tk15 (i := 0) (v := ?_) rfl ?y1 hHeld ?_
              case y1 => intro w0 hSw; (try dsimp only at hSw); go_simp; (try with_reducible rfl)
              try simp only [Act.put, qa15, qb15, qc15, qd15, qe15, qf15]
              refine tk15 (i := 1) (v := ?_) rfl ?y2 hHeld ?_
              case y2 => intro w0 hSw; (try dsimp only at hSw); go_simp; (try with_reducible rfl)
              try simp only [Act.put, qa15, qb15, qc15, qd15, qe15, qf15]
              refine tk15 (i := 2) (v := ?_) rfl ?y3 hHeld ?_
              case y3 => intro w0 hSw; (try dsimp only at hSw); go_simp; (try with_reducible rfl)
              try simp only [Act.put, qa15, qb15, qc15, qd15, qe15, qf15]
              refine tk15 (i := 3) (v := ?_) rfl ?y4 hHeld ?_
              case y4 => intro w0 hSw; (try dsimp only at hSw); go_simp; (try with_reducible rfl)
              try simp only [Act.put, qa15, qb15, qc15, qd15, qe15, qf15]
              refine tk15 (i := 4) (v := ?_) rfl ?y5 hHeld ?_
              case y5 => intro w0 hSw; (try dsimp only at hSw); go_simp; (try with_reducible rfl)
              try simp only [Act.put, qa15, qb15, qc15, qd15, qe15, qf15]
              refine tk15 (i := 5) (v := ?_) rfl ?y6 hHeld ?_
              case y6 => intro w0 hSw; (try dsimp only at hSw); go_simp; (try with_reducible rfl)
              try simp only [Act.put, qa15, qb15, qc15, qd15, qe15, qf15]
              refine wpAnyN_step (i := 6) (by kernel_rfl) rfl (fun K hK => ?_)
              go_simp
              refine hK.out _ _ (fun _ => hAl _) ?_
              clear hK K
              try simp only [Act.put, qa15, qb15, qc15, qd15, qe15, qf15]
              refine wpAnyN_step (i := 7) (by kernel_rfl) rfl (fun K hK => ?_)
              refine step_append_lies _ rfl _ _ 47 rfl W7.heap.size 92 ic (.agg #[.string ByteArray.empty, .string ByteArray.empty, .int .i64 0, .int .i64 0, .int .i64 0]) 5 56 Tryz.underlying47 hic hcz0 hcz1 hcz2 rfl (by decide) (Value.slice D n d) n _ (by simp [Act.eval, Act.put]) HOX.out ⟨wr.heap.size, 0, none⟩ 1 1 [.string y.key, .string y.account, .int .i64 y.day, .int .i64 y.due, .int .i64 y.amount] (by simp [Act.eval, Act.put]) rfl (World.news_of_block (World.alloc_heap_new wr.drew _)) (clm_one _ _ _ _ _) (by decide) (by unfold maxLen; omega) (by omega) (by show W7.heap.size ≤ (wr.alloc _).heap.size; rw [World.size_alloc]; omega) _ rfl ?_
              intro g cap w5 hown5 hgrow5 hat5 hlt5
              have hk5 : ∀ q, q < wr.heap.size → (Value.slice D n d).ownBlock ≠ some q → w5.heap[q]? = wr.heap[q]? := fun q hq hn => (hgrow5.block q (by simp; omega) fun e => hn e.symm).trans (Below.heap_alloc wr.drew _ q hq)
              have hkw : w5.heap[B3]? = wr.heap[B3]? := hk5 B3 hBr fun e => by have := (hownD.lt _ e).1; omega
              have hkq : w5.heap[q7]? = wr.heap[q7]? := hk5 q7 hq7 fun e => by have := (hownD.lt _ e).1; omega
              have hHeld5 := hS w5 hkw hkq
              have f5 := frozen_blk (hkw.trans HD.out) 6
              refine hK.out _ _ (fun _ => hHeld5) ?_
              clear hK K
              try simp only [Act.put, qa15, qb15, qc15, qd15, qe15, qf15]
              refine wpAnyN_step (i := 8) (by kernel_rfl) rfl (fun K hK => ?_)
              go_simp
              refine hK.out _ _ (fun _ => hHeld5) ?_
              clear hK K
              try simp only [Act.put, qa15, qb15, qc15, qd15, qe15, qf15]
              refine wpAnyN_step (i := 9) (by kernel_rfl) rfl (fun K hK => ?_)
              go_simp
              refine hK.out _ _ (fun h => absurd h (by decide)) ?_
              clear hK K
              try simp only [Act.put, qa15, qb15, qc15, qd15, qe15, qf15]
              refine wpAnyN_done (by kernel_rfl) ?_ _
              have hfin := heap_setCell_same (i := 6) (hkw.trans HD.out) (.slice (some ⟨g, 0, none⟩) (n + 1) cap)
              have hg3 : g ≠ B3 := fun e => by subst e; rcases hat5 with h | h; (have := (hownD.lt _ h).1; omega); (rw [h] at hBr; simp at hBr; omega)
              have hnew := ownsRow_keep (w' := w5.setCell ⟨B3, 6, none⟩ (.slice (some ⟨g, 0, none⟩) (n + 1) cap)) hown5 fun q e => Below.heap_setCell _ _ _ _ (by obtain rfl : q = g := (Option.some.inj e).symm; exact hg3)
              have hol : ∀ q, (Value.slice A' m a).ownBlock = some q → q < wr.heap.size ∧ q ≠ B3 ∧ (Value.slice D n d).ownBlock ≠ some q := fun q e => ⟨(hownA.lt q e).2, by have := (hownA.lt q e).1; omega, fun e2 => hdist q e e2⟩
              have hoth := ownsRow_keep (w' := w5.setCell ⟨B3, 6, none⟩ (.slice (some ⟨g, 0, none⟩) (n + 1) cap)) hownA fun q e => (Below.heap_setCell _ _ _ _ (hol q e).2.1).trans ((hgrow5.block q (by have := (hol q e).1; simp; omega) fun e2 => (hol q e).2.2 e2.symm).trans (Below.heap_alloc wr.drew _ q (hol q e).1))
              have hdd : ∀ q, (Value.slice A' m a).ownBlock = some q → (Value.slice (some ⟨g, 0, none⟩) (n + 1) cap).ownBlock ≠ some q := fun q e e2 => by
                obtain rfl : q = g := (Option.some.inj e2).symm
                rcases hat5 with h | h
                · exact (hol q e).2.2 h
                · have := (hol q e).1; rw [h] at this; simp at this; omega
              have hch2 := ((((hch.drew).alloc (.cells #[.string y.key, .string y.account, .int .i64 y.day, .int .i64 y.due, .int .i64 y.amount] 92)).grown hgrow5 fun q e => .inr (hownD.lt q e).1)).setCell (p := ⟨B3, 6, none⟩) (.inl rfl) (.slice (some ⟨g, 0, none⟩) (n + 1) cap)
              generalize w5.setCell ⟨B3, 6, none⟩ (.slice (some ⟨g, 0, none⟩) (n + 1) cap) = W9 at hfin hnew hoth hch2 ⊢
              go_wp2
              go_roundw
              case rel => exact ⟨k + 1, by omega, by go_num, ⟨A', a, xs, some ⟨g, 0, none⟩, cap, _, m, n + 1, hfin, hoth, hnew, fun q e1 e2 => hdd q e1 e2, by omega, by omega, by have h7 := HEQ.out.pay hlt (by rw [← HYY.out]; exact HPY.out.symm); rw [← HYY.out] at h7; exact h7⟩, hch2⟩
              case measure => simp [intOf]; omega
            | false =>
              have hS : ∀ W : World, W.heap[B3]? = wr.heap[B3]? → W.heap[q7]? = wr.heap[q7]? → W.cell? ⟨B3, 5, none⟩ = some (.slice A' m a) ∧ W.cell? ⟨q7, 0, none⟩ = some (.string y.key) ∧ W.cell? ⟨q7, 1, none⟩ = some (.string y.account) ∧ W.cell? ⟨q7, 2, none⟩ = some (.int .i64 y.day) ∧ W.cell? ⟨q7, 3, none⟩ = some (.int .i64 y.due) ∧ W.cell? ⟨q7, 4, none⟩ = some (.int .i64 y.amount) := fun W e1 e2 => by
                have k1 := e1.trans HD.out
                have k2 := e2.trans HCL7.out
                exact ⟨by rw [cell_of_blk k1]; rfl, by rw [cell_of_blk k2]; rfl, by rw [cell_of_blk k2]; rfl, by rw [cell_of_blk k2]; rfl, by rw [cell_of_blk k2]; rfl, by rw [cell_of_blk k2]; rfl⟩
              go_wp2
              have hHeld : wr.drew.cell? ⟨B3, 5, none⟩ = some (.slice A' m a) ∧ wr.drew.cell? ⟨q7, 0, none⟩ = some (.string y.key) ∧ wr.drew.cell? ⟨q7, 1, none⟩ = some (.string y.account) ∧ wr.drew.cell? ⟨q7, 2, none⟩ = some (.int .i64 y.day) ∧ wr.drew.cell? ⟨q7, 3, none⟩ = some (.int .i64 y.due) ∧ wr.drew.cell? ⟨q7, 4, none⟩ = some (.int .i64 y.amount) := hS wr.drew rfl rfl
              have hAl : ∀ o, (wr.drew.alloc o).cell? ⟨B3, 5, none⟩ = some (.slice A' m a) ∧ (wr.drew.alloc o).cell? ⟨q7, 0, none⟩ = some (.string y.key) ∧ (wr.drew.alloc o).cell? ⟨q7, 1, none⟩ = some (.string y.account) ∧ (wr.drew.alloc o).cell? ⟨q7, 2, none⟩ = some (.int .i64 y.day) ∧ (wr.drew.alloc o).cell? ⟨q7, 3, none⟩ = some (.int .i64 y.due) ∧ (wr.drew.alloc o).cell? ⟨q7, 4, none⟩ = some (.int .i64 y.amount) := fun o => hS (wr.drew.alloc o) (Below.heap_alloc wr.drew o B3 hBr) (Below.heap_alloc wr.drew o q7 hq7)
              have HOX := Lib.hid (World.ownsRow.alloc (w := wr.drew) hownA (.cells #[.string y.key, .string y.account, .int .i64 y.day, .int .i64 y.due, .int .i64 y.amount] 92))
              refine wp_region_n (n := 9) (S := fun w' => w'.cell? ⟨B3, 5, none⟩ = some (.slice A' m a) ∧ w'.cell? ⟨q7, 0, none⟩ = some (.string y.key) ∧ w'.cell? ⟨q7, 1, none⟩ = some (.string y.account) ∧ w'.cell? ⟨q7, 2, none⟩ = some (.int .i64 y.day) ∧ w'.cell? ⟨q7, 3, none⟩ = some (.int .i64 y.due) ∧ w'.cell? ⟨q7, 4, none⟩ = some (.int .i64 y.amount)) (by kernel_rfl) ?_
              refine tk15 (i := 0) (v := ?_) rfl ?y7 hHeld ?_
              case y7 => intro w0 hSw; (try dsimp only at hSw); go_simp; (try with_reducible rfl)
              try simp only [Act.put, qa15, qb15, qc15, qd15, qe15, qf15]
              refine tk15 (i := 1) (v := ?_) rfl ?y8 hHeld ?_
              case y8 => intro w0 hSw; (try dsimp only at hSw); go_simp; (try with_reducible rfl)
              try simp only [Act.put, qa15, qb15, qc15, qd15, qe15, qf15]
              refine tk15 (i := 2) (v := ?_) rfl ?y9 hHeld ?_
              case y9 => intro w0 hSw; (try dsimp only at hSw); go_simp; (try with_reducible rfl)
              try simp only [Act.put, qa15, qb15, qc15, qd15, qe15, qf15]
              refine tk15 (i := 3) (v := ?_) rfl ?y10 hHeld ?_
              case y10 => intro w0 hSw; (try dsimp only at hSw); go_simp; (try with_reducible rfl)
              try simp only [Act.put, qa15, qb15, qc15, qd15, qe15, qf15]
              refine tk15 (i := 4) (v := ?_) rfl ?y11 hHeld ?_
              case y11 => intro w0 hSw; (try dsimp only at hSw); go_simp; (try with_reducible rfl)
              try simp only [Act.put, qa15, qb15, qc15, qd15, qe15, qf15]
              refine tk15 (i := 5) (v := ?_) rfl ?y12 hHeld ?_
              case y12 => intro w0 hSw; (try dsimp only at hSw); go_simp; (try with_reducible rfl)
              try simp only [Act.put, qa15, qb15, qc15, qd15, qe15, qf15]
              refine wpAnyN_step (i := 6) (by kernel_rfl) rfl (fun K hK => ?_)
              go_simp
              refine hK.out _ _ (fun _ => hAl _) ?_
              clear hK K
              try simp only [Act.put, qa15, qb15, qc15, qd15, qe15, qf15]
              refine wpAnyN_step (i := 7) (by kernel_rfl) rfl (fun K hK => ?_)
              refine step_append_lies _ rfl _ _ 47 rfl W7.heap.size 92 ic (.agg #[.string ByteArray.empty, .string ByteArray.empty, .int .i64 0, .int .i64 0, .int .i64 0]) 5 56 Tryz.underlying47 hic hcz0 hcz1 hcz2 rfl (by decide) (Value.slice A' m a) m _ (by simp [Act.eval, Act.put]) HOX.out ⟨wr.heap.size, 0, none⟩ 1 1 [.string y.key, .string y.account, .int .i64 y.day, .int .i64 y.due, .int .i64 y.amount] (by simp [Act.eval, Act.put]) rfl (World.news_of_block (World.alloc_heap_new wr.drew _)) (clm_one _ _ _ _ _) (by decide) (by unfold maxLen; omega) (by omega) (by show W7.heap.size ≤ (wr.alloc _).heap.size; rw [World.size_alloc]; omega) _ rfl ?_
              intro g cap w5 hown5 hgrow5 hat5 hlt5
              have hk5 : ∀ q, q < wr.heap.size → (Value.slice A' m a).ownBlock ≠ some q → w5.heap[q]? = wr.heap[q]? := fun q hq hn => (hgrow5.block q (by simp; omega) fun e => hn e.symm).trans (Below.heap_alloc wr.drew _ q hq)
              have hkw : w5.heap[B3]? = wr.heap[B3]? := hk5 B3 hBr fun e => by have := (hownA.lt _ e).1; omega
              have hkq : w5.heap[q7]? = wr.heap[q7]? := hk5 q7 hq7 fun e => by have := (hownA.lt _ e).1; omega
              have hHeld5 := hS w5 hkw hkq
              have f5 := frozen_blk (hkw.trans HD.out) 5
              refine hK.out _ _ (fun _ => hHeld5) ?_
              clear hK K
              try simp only [Act.put, qa15, qb15, qc15, qd15, qe15, qf15]
              refine wpAnyN_step (i := 8) (by kernel_rfl) rfl (fun K hK => ?_)
              go_simp
              refine hK.out _ _ (fun _ => hHeld5) ?_
              clear hK K
              try simp only [Act.put, qa15, qb15, qc15, qd15, qe15, qf15]
              refine wpAnyN_step (i := 9) (by kernel_rfl) rfl (fun K hK => ?_)
              go_simp
              refine hK.out _ _ (fun h => absurd h (by decide)) ?_
              clear hK K
              try simp only [Act.put, qa15, qb15, qc15, qd15, qe15, qf15]
              refine wpAnyN_done (by kernel_rfl) ?_ _
              have hfin := heap_setCell_same (i := 5) (hkw.trans HD.out) (.slice (some ⟨g, 0, none⟩) (m + 1) cap)
              have hg3 : g ≠ B3 := fun e => by subst e; rcases hat5 with h | h; (have := (hownA.lt _ h).1; omega); (rw [h] at hBr; simp at hBr; omega)
              have hnew := ownsRow_keep (w' := w5.setCell ⟨B3, 5, none⟩ (.slice (some ⟨g, 0, none⟩) (m + 1) cap)) hown5 fun q e => Below.heap_setCell _ _ _ _ (by obtain rfl : q = g := (Option.some.inj e).symm; exact hg3)
              have hol : ∀ q, (Value.slice D n d).ownBlock = some q → q < wr.heap.size ∧ q ≠ B3 ∧ (Value.slice A' m a).ownBlock ≠ some q := fun q e => ⟨(hownD.lt q e).2, by have := (hownD.lt q e).1; omega, fun e2 => hdist q e2 e⟩
              have hoth := ownsRow_keep (w' := w5.setCell ⟨B3, 5, none⟩ (.slice (some ⟨g, 0, none⟩) (m + 1) cap)) hownD fun q e => (Below.heap_setCell _ _ _ _ (hol q e).2.1).trans ((hgrow5.block q (by have := (hol q e).1; simp; omega) fun e2 => (hol q e).2.2 e2.symm).trans (Below.heap_alloc wr.drew _ q (hol q e).1))
              have hdd : ∀ q, (Value.slice D n d).ownBlock = some q → (Value.slice (some ⟨g, 0, none⟩) (m + 1) cap).ownBlock ≠ some q := fun q e e2 => by
                obtain rfl : q = g := (Option.some.inj e2).symm
                rcases hat5 with h | h
                · exact (hol q e).2.2 h
                · have := (hol q e).1; rw [h] at this; simp at this; omega
              have hch2 := ((((hch.drew).alloc (.cells #[.string y.key, .string y.account, .int .i64 y.day, .int .i64 y.due, .int .i64 y.amount] 92)).grown hgrow5 fun q e => .inr (hownA.lt q e).1)).setCell (p := ⟨B3, 5, none⟩) (.inl rfl) (.slice (some ⟨g, 0, none⟩) (m + 1) cap)
              generalize w5.setCell ⟨B3, 5, none⟩ (.slice (some ⟨g, 0, none⟩) (m + 1) cap) = W9 at hfin hnew hoth hch2 ⊢
              go_wp2
              go_roundw
              case rel => exact ⟨k + 1, by omega, by go_num, ⟨some ⟨g, 0, none⟩, cap, _, D, d, ys, m + 1, n, hfin, hnew, hoth, fun q e1 e2 => hdd q e2 e1, by omega, by omega, by have h7 := HEQ.out.inv hlt (by rw [← HYY.out]; exact HPY.out.symm); rw [← HYY.out] at h7; exact h7⟩, hch2⟩
              case measure => simp [intOf]; omega
          · obtain rfl : k = S.claims.length := by omega
            have hzB := (hch.block w.heap.size (by omega) (fun e => by have := hB3l; have e' : w.heap.size = B3 := e; omega)).trans HZ7.out
            have hzl := heap_lt hzB
            have z0 : wr.cell? ⟨w.heap.size, 0, none⟩ = some (.int .i64 0) := by rw [cell_of_blk hzB]; rfl
            have y0 := frozen_blk hzB 0
            have v0 : wr.cell? ⟨B3, 0, none⟩ = some (.int .i64 S.events) := by rw [cell_of_blk hd]; rfl
            have z1 : wr.cell? ⟨w.heap.size, 1, none⟩ = some (.slice none 0 0) := by rw [cell_of_blk hzB]; rfl
            have y1 := frozen_blk hzB 1
            have v1 : wr.cell? ⟨B3, 1, none⟩ = some (.slice kA S.keys.length kc) := by rw [cell_of_blk hd]; rfl
            have z2 : wr.cell? ⟨w.heap.size, 2, none⟩ = some (.slice none 0 0) := by rw [cell_of_blk hzB]; rfl
            have y2 := frozen_blk hzB 2
            have v2 : wr.cell? ⟨B3, 2, none⟩ = some (.slice aA S.chart.length ac) := by rw [cell_of_blk hd]; rfl
            have z3 : wr.cell? ⟨w.heap.size, 3, none⟩ = some (.slice none 0 0) := by rw [cell_of_blk hzB]; rfl
            have y3 := frozen_blk hzB 3
            have v3 : wr.cell? ⟨B3, 3, none⟩ = some (.slice rA S.rows.length rc) := by rw [cell_of_blk hd]; rfl
            have z4 : wr.cell? ⟨w.heap.size, 4, none⟩ = some (.slice none 0 0) := by rw [cell_of_blk hzB]; rfl
            have y4 := frozen_blk hzB 4
            have v4 : wr.cell? ⟨B3, 4, none⟩ = some (.slice A S.entries.length c) := by rw [cell_of_blk hd]; rfl
            have z5 : wr.cell? ⟨w.heap.size, 5, none⟩ = some (.slice none 0 0) := by rw [cell_of_blk hzB]; rfl
            have y5 := frozen_blk hzB 5
            have v5 : wr.cell? ⟨B3, 5, none⟩ = some (.slice A' m a) := by rw [cell_of_blk hd]; rfl
            have z6 : wr.cell? ⟨w.heap.size, 6, none⟩ = some (.slice none 0 0) := by rw [cell_of_blk hzB]; rfl
            have y6 := frozen_blk hzB 6
            have v6 : wr.cell? ⟨B3, 6, none⟩ = some (.slice D n d) := by rw [cell_of_blk hd]; rfl
            have z7 : wr.cell? ⟨w.heap.size, 7, none⟩ = some (.slice none 0 0) := by rw [cell_of_blk hzB]; rfl
            have y7 := frozen_blk hzB 7
            have v7 : wr.cell? ⟨B3, 7, none⟩ = some (.slice lA S.allots.length lc) := by rw [cell_of_blk hd]; rfl
            have z8 : wr.cell? ⟨w.heap.size, 8, none⟩ = some (.int .i64 0) := by rw [cell_of_blk hzB]; rfl
            have y8 := frozen_blk hzB 8
            have v8 : wr.cell? ⟨B3, 8, none⟩ = some (.int .i64 S.lock) := by rw [cell_of_blk hd]; rfl
            have hn1 : ¬ (B3 = w.heap.size) := by omega
            have hn2 : ¬ (w.heap.size = B3) := by omega
            have hacc2 := acc_keep (w' := wr) HACC7.out hcs1 fun q e => hch.block q (acc_lt HACC7.out q e).2 (HAB.out q e).1
            have hkey2 := ownsRow_keep (w' := wr) HKEY7.out fun q e => hch.block q (HKEY7.out.lt q e).2 (HKB.out q e).1
            have halt2 := ownsRow_keep (w' := wr) HALT7.out fun q e => hch.block q (HALT7.out.lt q e).2 (HLB.out q e).1
            have hent2 := HEA.out.keep (w9 := wr) hcs1 fun q h1 h2 => hch.block q h2 fun e => by have e' : q = B3 := e; omega
            have HE2 := Lib.hid (And.intro hkey2 (And.intro halt2 hent2))
            have HCL2 := Lib.hid (And.intro hownA hownD)
            clear hkey2 halt2 hent2
            have hrow2 := ownsRow_keep (w' := wr) HROW7.out fun q e => hch.block q (HROW7.out.lt q e).2 (HRB.out q e).1
            clear hd hownA hownD hdist
            go_wp2
            have h0 := hzB
            have h1 : (wr.setCell ⟨w.heap.size, 0, none⟩ (.int .i64 S.events)).heap[w.heap.size]? = some (.cells #[.int .i64 S.events, .slice none 0 0, .slice none 0 0, .slice none 0 0, .slice none 0 0, .slice none 0 0, .slice none 0 0, .slice none 0 0, .int .i64 0] 50 (0, 0)) := heap_setCell_same (i := 0) h0 (.int .i64 S.events)
            have h2 : ((wr.setCell ⟨w.heap.size, 0, none⟩ (.int .i64 S.events)).setCell ⟨w.heap.size, 1, none⟩ (.slice kA S.keys.length kc)).heap[w.heap.size]? = some (.cells #[.int .i64 S.events, .slice kA S.keys.length kc, .slice none 0 0, .slice none 0 0, .slice none 0 0, .slice none 0 0, .slice none 0 0, .slice none 0 0, .int .i64 0] 50 (0, 0)) := heap_setCell_same (i := 1) h1 (.slice kA S.keys.length kc)
            have h3 : (((wr.setCell ⟨w.heap.size, 0, none⟩ (.int .i64 S.events)).setCell ⟨w.heap.size, 1, none⟩ (.slice kA S.keys.length kc)).setCell ⟨w.heap.size, 2, none⟩ (.slice aA S.chart.length ac)).heap[w.heap.size]? = some (.cells #[.int .i64 S.events, .slice kA S.keys.length kc, .slice aA S.chart.length ac, .slice none 0 0, .slice none 0 0, .slice none 0 0, .slice none 0 0, .slice none 0 0, .int .i64 0] 50 (0, 0)) := heap_setCell_same (i := 2) h2 (.slice aA S.chart.length ac)
            have h4 : ((((wr.setCell ⟨w.heap.size, 0, none⟩ (.int .i64 S.events)).setCell ⟨w.heap.size, 1, none⟩ (.slice kA S.keys.length kc)).setCell ⟨w.heap.size, 2, none⟩ (.slice aA S.chart.length ac)).setCell ⟨w.heap.size, 3, none⟩ (.slice rA S.rows.length rc)).heap[w.heap.size]? = some (.cells #[.int .i64 S.events, .slice kA S.keys.length kc, .slice aA S.chart.length ac, .slice rA S.rows.length rc, .slice none 0 0, .slice none 0 0, .slice none 0 0, .slice none 0 0, .int .i64 0] 50 (0, 0)) := heap_setCell_same (i := 3) h3 (.slice rA S.rows.length rc)
            have h5 : (((((wr.setCell ⟨w.heap.size, 0, none⟩ (.int .i64 S.events)).setCell ⟨w.heap.size, 1, none⟩ (.slice kA S.keys.length kc)).setCell ⟨w.heap.size, 2, none⟩ (.slice aA S.chart.length ac)).setCell ⟨w.heap.size, 3, none⟩ (.slice rA S.rows.length rc)).setCell ⟨w.heap.size, 4, none⟩ (.slice A S.entries.length c)).heap[w.heap.size]? = some (.cells #[.int .i64 S.events, .slice kA S.keys.length kc, .slice aA S.chart.length ac, .slice rA S.rows.length rc, .slice A S.entries.length c, .slice none 0 0, .slice none 0 0, .slice none 0 0, .int .i64 0] 50 (0, 0)) := heap_setCell_same (i := 4) h4 (.slice A S.entries.length c)
            have h6 : ((((((wr.setCell ⟨w.heap.size, 0, none⟩ (.int .i64 S.events)).setCell ⟨w.heap.size, 1, none⟩ (.slice kA S.keys.length kc)).setCell ⟨w.heap.size, 2, none⟩ (.slice aA S.chart.length ac)).setCell ⟨w.heap.size, 3, none⟩ (.slice rA S.rows.length rc)).setCell ⟨w.heap.size, 4, none⟩ (.slice A S.entries.length c)).setCell ⟨w.heap.size, 5, none⟩ (.slice A' m a)).heap[w.heap.size]? = some (.cells #[.int .i64 S.events, .slice kA S.keys.length kc, .slice aA S.chart.length ac, .slice rA S.rows.length rc, .slice A S.entries.length c, .slice A' m a, .slice none 0 0, .slice none 0 0, .int .i64 0] 50 (0, 0)) := heap_setCell_same (i := 5) h5 (.slice A' m a)
            have h7 : (((((((wr.setCell ⟨w.heap.size, 0, none⟩ (.int .i64 S.events)).setCell ⟨w.heap.size, 1, none⟩ (.slice kA S.keys.length kc)).setCell ⟨w.heap.size, 2, none⟩ (.slice aA S.chart.length ac)).setCell ⟨w.heap.size, 3, none⟩ (.slice rA S.rows.length rc)).setCell ⟨w.heap.size, 4, none⟩ (.slice A S.entries.length c)).setCell ⟨w.heap.size, 5, none⟩ (.slice A' m a)).setCell ⟨w.heap.size, 6, none⟩ (.slice D n d)).heap[w.heap.size]? = some (.cells #[.int .i64 S.events, .slice kA S.keys.length kc, .slice aA S.chart.length ac, .slice rA S.rows.length rc, .slice A S.entries.length c, .slice A' m a, .slice D n d, .slice none 0 0, .int .i64 0] 50 (0, 0)) := heap_setCell_same (i := 6) h6 (.slice D n d)
            have h8 : ((((((((wr.setCell ⟨w.heap.size, 0, none⟩ (.int .i64 S.events)).setCell ⟨w.heap.size, 1, none⟩ (.slice kA S.keys.length kc)).setCell ⟨w.heap.size, 2, none⟩ (.slice aA S.chart.length ac)).setCell ⟨w.heap.size, 3, none⟩ (.slice rA S.rows.length rc)).setCell ⟨w.heap.size, 4, none⟩ (.slice A S.entries.length c)).setCell ⟨w.heap.size, 5, none⟩ (.slice A' m a)).setCell ⟨w.heap.size, 6, none⟩ (.slice D n d)).setCell ⟨w.heap.size, 7, none⟩ (.slice lA S.allots.length lc)).heap[w.heap.size]? = some (.cells #[.int .i64 S.events, .slice kA S.keys.length kc, .slice aA S.chart.length ac, .slice rA S.rows.length rc, .slice A S.entries.length c, .slice A' m a, .slice D n d, .slice lA S.allots.length lc, .int .i64 0] 50 (0, 0)) := heap_setCell_same (i := 7) h7 (.slice lA S.allots.length lc)
            have h9 : (((((((((wr.setCell ⟨w.heap.size, 0, none⟩ (.int .i64 S.events)).setCell ⟨w.heap.size, 1, none⟩ (.slice kA S.keys.length kc)).setCell ⟨w.heap.size, 2, none⟩ (.slice aA S.chart.length ac)).setCell ⟨w.heap.size, 3, none⟩ (.slice rA S.rows.length rc)).setCell ⟨w.heap.size, 4, none⟩ (.slice A S.entries.length c)).setCell ⟨w.heap.size, 5, none⟩ (.slice A' m a)).setCell ⟨w.heap.size, 6, none⟩ (.slice D n d)).setCell ⟨w.heap.size, 7, none⟩ (.slice lA S.allots.length lc)).setCell ⟨w.heap.size, 8, none⟩ (.int .i64 S.lock)).heap[w.heap.size]? = some (.cells #[.int .i64 S.events, .slice kA S.keys.length kc, .slice aA S.chart.length ac, .slice rA S.rows.length rc, .slice A S.entries.length c, .slice A' m a, .slice D n d, .slice lA S.allots.length lc, .int .i64 S.lock] 50 (0, 0)) := heap_setCell_same (i := 8) h8 (.int .i64 S.lock)
            have hkp : ∀ k, k ≠ w.heap.size → (((((((((wr.setCell ⟨w.heap.size, 0, none⟩ (.int .i64 S.events)).setCell ⟨w.heap.size, 1, none⟩ (.slice kA S.keys.length kc)).setCell ⟨w.heap.size, 2, none⟩ (.slice aA S.chart.length ac)).setCell ⟨w.heap.size, 3, none⟩ (.slice rA S.rows.length rc)).setCell ⟨w.heap.size, 4, none⟩ (.slice A S.entries.length c)).setCell ⟨w.heap.size, 5, none⟩ (.slice A' m a)).setCell ⟨w.heap.size, 6, none⟩ (.slice D n d)).setCell ⟨w.heap.size, 7, none⟩ (.slice lA S.allots.length lc)).setCell ⟨w.heap.size, 8, none⟩ (.int .i64 S.lock)).heap[k]? = wr.heap[k]? := fun k hk => by
              repeat (refine (Below.heap_setCell _ _ _ _ hk).trans ?_)
              rfl
            have hb9 := (((((((((hbr.setCell (p := ⟨w.heap.size, 0, none⟩) (Nat.le_refl _) (.int .i64 S.events)).setCell (p := ⟨w.heap.size, 1, none⟩) (Nat.le_refl _) (.slice kA S.keys.length kc)).setCell (p := ⟨w.heap.size, 2, none⟩) (Nat.le_refl _) (.slice aA S.chart.length ac)).setCell (p := ⟨w.heap.size, 3, none⟩) (Nat.le_refl _) (.slice rA S.rows.length rc)).setCell (p := ⟨w.heap.size, 4, none⟩) (Nat.le_refl _) (.slice A S.entries.length c)).setCell (p := ⟨w.heap.size, 5, none⟩) (Nat.le_refl _) (.slice A' m a)).setCell (p := ⟨w.heap.size, 6, none⟩) (Nat.le_refl _) (.slice D n d)).setCell (p := ⟨w.heap.size, 7, none⟩) (Nat.le_refl _) (.slice lA S.allots.length lc)).setCell (p := ⟨w.heap.size, 8, none⟩) (Nat.le_refl _) (.int .i64 S.lock))
            have hs9 : (((((((((wr.setCell ⟨w.heap.size, 0, none⟩ (.int .i64 S.events)).setCell ⟨w.heap.size, 1, none⟩ (.slice kA S.keys.length kc)).setCell ⟨w.heap.size, 2, none⟩ (.slice aA S.chart.length ac)).setCell ⟨w.heap.size, 3, none⟩ (.slice rA S.rows.length rc)).setCell ⟨w.heap.size, 4, none⟩ (.slice A S.entries.length c)).setCell ⟨w.heap.size, 5, none⟩ (.slice A' m a)).setCell ⟨w.heap.size, 6, none⟩ (.slice D n d)).setCell ⟨w.heap.size, 7, none⟩ (.slice lA S.allots.length lc)).setCell ⟨w.heap.size, 8, none⟩ (.int .i64 S.lock)).heap.size = wr.heap.size := by simp [World.setCell]
            (try simp only [Exit.inBlock, Exit.then])
            refine bodyPost_ret (results_cell_row rfl _ _ w.heap.size 50 _ (0, 0) _ rfl h9 Tryz.underlying50 rfl (by kernel_rfl)) rfl ?_
            have heq := HEQ.out
            have hmm := heq.m
            have hnn := heq.n
            have hxx := heq.xs
            have hyy := heq.ys
            rw [fI_all] at hmm hxx
            rw [fP_all] at hnn hyy
            subst hmm hnn hxx hyy
            obtain ⟨hke, hal, hen⟩ := HE2.out
            obtain ⟨hcA, hcD⟩ := HCL2.out
            have hwq : ∀ q, W1.heap.size ≤ q → q ≠ w.heap.size := fun q hq => by omega
            have hke9 := ownsRow_keep hke fun q e => hkp q (HKB.out q e).2
            have hal9 := ownsRow_keep hal fun q e => hkp q (HLB.out q e).2
            have hac9 := acc_keep hacc2 (by omega) fun q e => hkp q (HAB.out q e).2
            have hro9 := ownsRow_keep hrow2 fun q e => hkp q (HRB.out q e).2
            have hen9 := hen.keep (by omega) fun q h1 h2 => hkp q (hwq q h1)
            have hcA9 := ownsRow_keep hcA fun q e => hkp q (hwq q (by have := (hcA.lt q e).1; omega))
            have hcD9 := ownsRow_keep hcD fun q e => hkp q (hwq q (by have := (hcD.lt q e).1; omega))
            refine ⟨_, _, _, _, _, _, _, clv, rfl, ?_, hb9⟩
            exact {
              keys := row_own (enc := encStr) (by rw [show (S.keys.map encStr).flatten = S.keys.map .string from one_flat S.keys]; exact hke9) (fun _ => rfl) fun q h _ => h
              accs := row_acc hac9 fun q h _ => h
              rows := row_own (enc := encPost) hro9 (fun _ => rfl) fun q h _ => h
              ents := by
                have ho := hen9.own
                rw [List.take_length] at ho
                exact RowAt.of_own (by rw [entC_len]; exact ho) (entCells_four _ _) fun q e => by have := (ho.lt q e).1; omega
              lines := fun i hi => (hen9.lines i hi hi).mono fun q hq => by have := hq.1; omega
              lnil := fun i hi => hen9.nil i hi
              invs := row_own (enc := encClaim) hcA9 (fun _ => rfl) fun q h _ => by omega
              pays := row_own (enc := encClaim) hcD9 (fun _ => rfl) fun q h _ => by omega
              alls := row_own (enc := encAllot) hal9 (fun _ => rfl) fun q h _ => h
              nils := ⟨NilOk.own hke9, acc_nil hac9, NilOk.own hro9, NilOk.own hen9.own, NilOk.own hcA9, NilOk.own hcD9, NilOk.own hal9⟩ }
  refine wpAnyN_step2 (i := 8) (j := 29) (by kernel_rfl) rfl rfl (fun K hK => ?_) (fun K hK => ?_)
  · go_simp
    go_at_call 33
    refine (HCK.out _ HB.out).mono ?_
    rintro en W1 ⟨rv, rfl, hown, hb⟩
    obtain ⟨kA, kc, hf⟩ := own_form hown
    subst hf
    have HKEY := Lib.hid (hown.mono HB.out.size)
    have HKEY2 := Lib.hid (row_ne hown (by have := HV0S.out; have := HBV.out.size; omega : w.heap.size < V0.heap.size))
    have HBV := Lib.hid (HBV.out.trans (hb.mono HBV.out.size))
    have HB := Lib.hid (HB.out.trans (hb.mono HB.out.size))
    have hHeld := HS.out _ HB.out
    clear hown hb
    go_wp2_with fail
    refine hK.out _ _ (fun _ => hHeld) ?_
    clear hK K
    try simp only [Act.put, qa15, qb15, qc15, qd15, qe15, qf15]
    refine wpAnyN_step2 (i := 13) (j := 29) (by kernel_rfl) rfl rfl (fun K hK => ?_) (fun K hK => ?_)
    · go_simp
      go_at_call 34
      refine (HCA.out _ HB.out).mono ?_
      rintro en W2 ⟨rv, rfl, hown, hb⟩
      obtain ⟨aA, ac, hf⟩ := acc_form hown
      subst hf
      have HKEY := Lib.hid (own_below HKEY.out hb)
      have HACC := Lib.hid (accRow_mono hown HB.out.size)
      have HACC2 := Lib.hid (acc_ne hown (by have := HV0S.out; have := HBV.out.size; omega : w.heap.size < W1.heap.size))
      have HBV := Lib.hid (HBV.out.trans (hb.mono HBV.out.size))
      have HB := Lib.hid (HB.out.trans (hb.mono HB.out.size))
      have hHeld := HS.out _ HB.out
      clear hown hb
      go_wp2_with fail
      refine hK.out _ _ (fun _ => hHeld) ?_
      clear hK K
      try simp only [Act.put, qa15, qb15, qc15, qd15, qe15, qf15]
      refine wpAnyN_step2 (i := 18) (j := 29) (by kernel_rfl) rfl rfl (fun K hK => ?_) (fun K hK => ?_)
      · go_simp
        go_at_call 35
        refine (HCR.out _ HB.out).mono ?_
        rintro en W3 ⟨rv, rfl, hown, hb⟩
        obtain ⟨rA, rc, hf⟩ := own_form hown
        subst hf
        have HKEY := Lib.hid (own_below HKEY.out hb)
        have HACC := Lib.hid (HACC.out.below hb)
        have HROW := Lib.hid (hown.mono HB.out.size)
        have HROW2 := Lib.hid (row_ne hown (by have := HV0S.out; have := HBV.out.size; omega : w.heap.size < W2.heap.size))
        have HBV := Lib.hid (HBV.out.trans (hb.mono HBV.out.size))
        have HB := Lib.hid (HB.out.trans (hb.mono HB.out.size))
        have hHeld := HS.out _ HB.out
        clear hown hb
        go_wp2_with fail
        refine hK.out _ _ (fun _ => hHeld) ?_
        clear hK K
        try simp only [Act.put, qa15, qb15, qc15, qd15, qe15, qf15]
        refine wpAnyN_step2 (i := 23) (j := 29) (by kernel_rfl) rfl rfl (fun K hK => ?_) (fun K hK => ?_)
        · go_simp
          go_at_call 36
          refine (HCL.out _ HB.out).mono ?_
          rintro en W4 ⟨rv, rfl, hown, hb⟩
          obtain ⟨lA, lc, hf⟩ := own_form hown
          subst hf
          have HKEY := Lib.hid (own_below HKEY.out hb)
          have HACC := Lib.hid (HACC.out.below hb)
          have HROW := Lib.hid (own_below HROW.out hb)
          have HALT := Lib.hid (hown.mono HB.out.size)
          have HALT2 := Lib.hid (row_ne hown (by have := HV0S.out; have := HBV.out.size; omega : w.heap.size < W3.heap.size))
          have HBV := Lib.hid (HBV.out.trans (hb.mono HBV.out.size))
          have HB := Lib.hid (HB.out.trans (hb.mono HB.out.size))
          have hHeld := HS.out _ HB.out
          clear hown hb
          go_wp2_with fail
          refine hK.out _ _ (fun _ => hHeld) ?_
          clear hK K
          try simp only [Act.put, qa15, qb15, qc15, qd15, qe15, qf15]
          refine tk15 (i := 28) (v := ?_) rfl ?y25 hHeld ?_
          case y25 => intro w0 hSw; (try dsimp only at hSw); go_simp; (try with_reducible rfl)
          try simp only [Act.put, qa15, qb15, qc15, qd15, qe15, qf15]
          refine wpAnyN_step (i := 29) (by kernel_rfl) rfl (fun K hK => ?_)
          go_simp
          have HB2 := Lib.hid (HB.out.alloc HB.out.size (.cells #[.int .i64 0, .slice none 0 0, .slice none 0 0, .slice none 0 0, .slice none 0 0, .slice none 0 0, .slice none 0 0, .slice none 0 0, .int .i64 0] 50))
          refine hK.out _ _ (fun _ => HS.out _ HB2.out) ?_
          clear hK K
          try simp only [Act.put, qa15, qb15, qc15, qd15, qe15, qf15]
          have hz := World.alloc_heap_new W4 (.cells #[.int .i64 0, .slice none 0 0, .slice none 0 0, .slice none 0 0, .slice none 0 0, .slice none 0 0, .slice none 0 0, .slice none 0 0, .int .i64 0] 50)
          obtain ⟨B3, hB3⟩ : ∃ B3, B3 = W4.heap.size := ⟨_, rfl⟩
          have hB3l : w.heap.size < B3 := by have := HV0S.out; have := HBV.out.size; omega
          rw [← hB3] at hz ⊢
          have HKEYB := Lib.hid (row_old HKEY.out hB3)
          have HKEY := Lib.hid (own_below HKEY.out (bel1 W4 (.cells #[.int .i64 0, .slice none 0 0, .slice none 0 0, .slice none 0 0, .slice none 0 0, .slice none 0 0, .slice none 0 0, .slice none 0 0, .int .i64 0] 50)))
          have HACCB := Lib.hid (acc_old HACC.out hB3)
          have HACC := Lib.hid (HACC.out.below (bel1 W4 (.cells #[.int .i64 0, .slice none 0 0, .slice none 0 0, .slice none 0 0, .slice none 0 0, .slice none 0 0, .slice none 0 0, .slice none 0 0, .int .i64 0] 50)))
          have HROWB := Lib.hid (row_old HROW.out hB3)
          have HROW := Lib.hid (own_below HROW.out (bel1 W4 (.cells #[.int .i64 0, .slice none 0 0, .slice none 0 0, .slice none 0 0, .slice none 0 0, .slice none 0 0, .slice none 0 0, .slice none 0 0, .int .i64 0] 50)))
          have HALTB := Lib.hid (row_old HALT.out hB3)
          have HALT := Lib.hid (own_below HALT.out (bel1 W4 (.cells #[.int .i64 0, .slice none 0 0, .slice none 0 0, .slice none 0 0, .slice none 0 0, .slice none 0 0, .slice none 0 0, .slice none 0 0, .int .i64 0] 50)))
          have HB := HB2
          have HBV := Lib.hid (HBV.out.alloc HBV.out.size (.cells #[.int .i64 0, .slice none 0 0, .slice none 0 0, .slice none 0 0, .slice none 0 0, .slice none 0 0, .slice none 0 0, .slice none 0 0, .int .i64 0] 50))
          generalize W4.alloc (.cells #[.int .i64 0, .slice none 0 0, .slice none 0 0, .slice none 0 0, .slice none 0 0, .slice none 0 0, .slice none 0 0, .slice none 0 0, .int .i64 0] 50) = W5 at hz HB HB2 HBV HKEY HACC HROW HALT ⊢
          have hHeld := HS.out _ HB.out
          clear hB3 HB2
          have z0 : W5.cell? ⟨B3, 0, none⟩ = some (.int .i64 0) := by rw [cell_of_blk hz]; rfl
          have y0 := frozen_blk hz 0
          have z1 : W5.cell? ⟨B3, 1, none⟩ = some (.slice none 0 0) := by rw [cell_of_blk hz]; rfl
          have y1 := frozen_blk hz 1
          have z2 : W5.cell? ⟨B3, 2, none⟩ = some (.slice none 0 0) := by rw [cell_of_blk hz]; rfl
          have y2 := frozen_blk hz 2
          have z3 : W5.cell? ⟨B3, 3, none⟩ = some (.slice none 0 0) := by rw [cell_of_blk hz]; rfl
          have y3 := frozen_blk hz 3
          have z4 : W5.cell? ⟨B3, 4, none⟩ = some (.slice none 0 0) := by rw [cell_of_blk hz]; rfl
          have y4 := frozen_blk hz 4
          have z5 : W5.cell? ⟨B3, 5, none⟩ = some (.slice none 0 0) := by rw [cell_of_blk hz]; rfl
          have y5 := frozen_blk hz 5
          have z6 : W5.cell? ⟨B3, 6, none⟩ = some (.slice none 0 0) := by rw [cell_of_blk hz]; rfl
          have y6 := frozen_blk hz 6
          have z7 : W5.cell? ⟨B3, 7, none⟩ = some (.slice none 0 0) := by rw [cell_of_blk hz]; rfl
          have y7 := frozen_blk hz 7
          have z8 : W5.cell? ⟨B3, 8, none⟩ = some (.int .i64 0) := by rw [cell_of_blk hz]; rfl
          have y8 := frozen_blk hz 8
          refine wpAnyN_step (i := 30) (by kernel_rfl) rfl (fun K hK => ?_)
          go_simp
          refine hK.out _ _ (fun h => absurd h (by decide)) ?_
          clear hK K
          try simp only [Act.put, qa15, qb15, qc15, qd15, qe15, qf15]
          refine wpAnyN_done (by kernel_rfl) ?_ _
          have h0 := hz
          have h1 : (W5.setCell ⟨B3, 0, none⟩ (.int .i64 S.events)).heap[B3]? = some (.cells #[.int .i64 S.events, .slice none 0 0, .slice none 0 0, .slice none 0 0, .slice none 0 0, .slice none 0 0, .slice none 0 0, .slice none 0 0, .int .i64 0] 50 (0, 0)) := heap_setCell_same (i := 0) h0 (.int .i64 S.events)
          have h2 : ((W5.setCell ⟨B3, 0, none⟩ (.int .i64 S.events)).setCell ⟨B3, 1, none⟩ (.slice kA S.keys.length kc)).heap[B3]? = some (.cells #[.int .i64 S.events, .slice kA S.keys.length kc, .slice none 0 0, .slice none 0 0, .slice none 0 0, .slice none 0 0, .slice none 0 0, .slice none 0 0, .int .i64 0] 50 (0, 0)) := heap_setCell_same (i := 1) h1 (.slice kA S.keys.length kc)
          have h3 : (((W5.setCell ⟨B3, 0, none⟩ (.int .i64 S.events)).setCell ⟨B3, 1, none⟩ (.slice kA S.keys.length kc)).setCell ⟨B3, 2, none⟩ (.slice aA S.chart.length ac)).heap[B3]? = some (.cells #[.int .i64 S.events, .slice kA S.keys.length kc, .slice aA S.chart.length ac, .slice none 0 0, .slice none 0 0, .slice none 0 0, .slice none 0 0, .slice none 0 0, .int .i64 0] 50 (0, 0)) := heap_setCell_same (i := 2) h2 (.slice aA S.chart.length ac)
          have h4 : ((((W5.setCell ⟨B3, 0, none⟩ (.int .i64 S.events)).setCell ⟨B3, 1, none⟩ (.slice kA S.keys.length kc)).setCell ⟨B3, 2, none⟩ (.slice aA S.chart.length ac)).setCell ⟨B3, 3, none⟩ (.slice rA S.rows.length rc)).heap[B3]? = some (.cells #[.int .i64 S.events, .slice kA S.keys.length kc, .slice aA S.chart.length ac, .slice rA S.rows.length rc, .slice none 0 0, .slice none 0 0, .slice none 0 0, .slice none 0 0, .int .i64 0] 50 (0, 0)) := heap_setCell_same (i := 3) h3 (.slice rA S.rows.length rc)
          have h5 : (((((W5.setCell ⟨B3, 0, none⟩ (.int .i64 S.events)).setCell ⟨B3, 1, none⟩ (.slice kA S.keys.length kc)).setCell ⟨B3, 2, none⟩ (.slice aA S.chart.length ac)).setCell ⟨B3, 3, none⟩ (.slice rA S.rows.length rc)).setCell ⟨B3, 4, none⟩ (.slice none 0 0)).heap[B3]? = some (.cells #[.int .i64 S.events, .slice kA S.keys.length kc, .slice aA S.chart.length ac, .slice rA S.rows.length rc, .slice none 0 0, .slice none 0 0, .slice none 0 0, .slice none 0 0, .int .i64 0] 50 (0, 0)) := heap_setCell_same (i := 4) h4 (.slice none 0 0)
          have h6 : ((((((W5.setCell ⟨B3, 0, none⟩ (.int .i64 S.events)).setCell ⟨B3, 1, none⟩ (.slice kA S.keys.length kc)).setCell ⟨B3, 2, none⟩ (.slice aA S.chart.length ac)).setCell ⟨B3, 3, none⟩ (.slice rA S.rows.length rc)).setCell ⟨B3, 4, none⟩ (.slice none 0 0)).setCell ⟨B3, 5, none⟩ (.slice none 0 0)).heap[B3]? = some (.cells #[.int .i64 S.events, .slice kA S.keys.length kc, .slice aA S.chart.length ac, .slice rA S.rows.length rc, .slice none 0 0, .slice none 0 0, .slice none 0 0, .slice none 0 0, .int .i64 0] 50 (0, 0)) := heap_setCell_same (i := 5) h5 (.slice none 0 0)
          have h7 : (((((((W5.setCell ⟨B3, 0, none⟩ (.int .i64 S.events)).setCell ⟨B3, 1, none⟩ (.slice kA S.keys.length kc)).setCell ⟨B3, 2, none⟩ (.slice aA S.chart.length ac)).setCell ⟨B3, 3, none⟩ (.slice rA S.rows.length rc)).setCell ⟨B3, 4, none⟩ (.slice none 0 0)).setCell ⟨B3, 5, none⟩ (.slice none 0 0)).setCell ⟨B3, 6, none⟩ (.slice none 0 0)).heap[B3]? = some (.cells #[.int .i64 S.events, .slice kA S.keys.length kc, .slice aA S.chart.length ac, .slice rA S.rows.length rc, .slice none 0 0, .slice none 0 0, .slice none 0 0, .slice none 0 0, .int .i64 0] 50 (0, 0)) := heap_setCell_same (i := 6) h6 (.slice none 0 0)
          have h8 : ((((((((W5.setCell ⟨B3, 0, none⟩ (.int .i64 S.events)).setCell ⟨B3, 1, none⟩ (.slice kA S.keys.length kc)).setCell ⟨B3, 2, none⟩ (.slice aA S.chart.length ac)).setCell ⟨B3, 3, none⟩ (.slice rA S.rows.length rc)).setCell ⟨B3, 4, none⟩ (.slice none 0 0)).setCell ⟨B3, 5, none⟩ (.slice none 0 0)).setCell ⟨B3, 6, none⟩ (.slice none 0 0)).setCell ⟨B3, 7, none⟩ (.slice lA S.allots.length lc)).heap[B3]? = some (.cells #[.int .i64 S.events, .slice kA S.keys.length kc, .slice aA S.chart.length ac, .slice rA S.rows.length rc, .slice none 0 0, .slice none 0 0, .slice none 0 0, .slice lA S.allots.length lc, .int .i64 0] 50 (0, 0)) := heap_setCell_same (i := 7) h7 (.slice lA S.allots.length lc)
          have h9 : (((((((((W5.setCell ⟨B3, 0, none⟩ (.int .i64 S.events)).setCell ⟨B3, 1, none⟩ (.slice kA S.keys.length kc)).setCell ⟨B3, 2, none⟩ (.slice aA S.chart.length ac)).setCell ⟨B3, 3, none⟩ (.slice rA S.rows.length rc)).setCell ⟨B3, 4, none⟩ (.slice none 0 0)).setCell ⟨B3, 5, none⟩ (.slice none 0 0)).setCell ⟨B3, 6, none⟩ (.slice none 0 0)).setCell ⟨B3, 7, none⟩ (.slice lA S.allots.length lc)).setCell ⟨B3, 8, none⟩ (.int .i64 S.lock)).heap[B3]? = some (.cells #[.int .i64 S.events, .slice kA S.keys.length kc, .slice aA S.chart.length ac, .slice rA S.rows.length rc, .slice none 0 0, .slice none 0 0, .slice none 0 0, .slice lA S.allots.length lc, .int .i64 S.lock] 50 (0, 0)) := heap_setCell_same (i := 8) h8 (.int .i64 S.lock)
          have hkp : ∀ k, k ≠ B3 → (((((((((W5.setCell ⟨B3, 0, none⟩ (.int .i64 S.events)).setCell ⟨B3, 1, none⟩ (.slice kA S.keys.length kc)).setCell ⟨B3, 2, none⟩ (.slice aA S.chart.length ac)).setCell ⟨B3, 3, none⟩ (.slice rA S.rows.length rc)).setCell ⟨B3, 4, none⟩ (.slice none 0 0)).setCell ⟨B3, 5, none⟩ (.slice none 0 0)).setCell ⟨B3, 6, none⟩ (.slice none 0 0)).setCell ⟨B3, 7, none⟩ (.slice lA S.allots.length lc)).setCell ⟨B3, 8, none⟩ (.int .i64 S.lock)).heap[k]? = W5.heap[k]? := fun k hk => by
            repeat (refine (Below.heap_setCell _ _ _ _ hk).trans ?_)
            rfl
          have hb1 := (((((((((HB.out.setCell (p := ⟨B3, 0, none⟩) (by show w.heap.size ≤ B3; omega) (.int .i64 S.events)).setCell (p := ⟨B3, 1, none⟩) (by show w.heap.size ≤ B3; omega) (.slice kA S.keys.length kc)).setCell (p := ⟨B3, 2, none⟩) (by show w.heap.size ≤ B3; omega) (.slice aA S.chart.length ac)).setCell (p := ⟨B3, 3, none⟩) (by show w.heap.size ≤ B3; omega) (.slice rA S.rows.length rc)).setCell (p := ⟨B3, 4, none⟩) (by show w.heap.size ≤ B3; omega) (.slice none 0 0)).setCell (p := ⟨B3, 5, none⟩) (by show w.heap.size ≤ B3; omega) (.slice none 0 0)).setCell (p := ⟨B3, 6, none⟩) (by show w.heap.size ≤ B3; omega) (.slice none 0 0)).setCell (p := ⟨B3, 7, none⟩) (by show w.heap.size ≤ B3; omega) (.slice lA S.allots.length lc)).setCell (p := ⟨B3, 8, none⟩) (by show w.heap.size ≤ B3; omega) (.int .i64 S.lock))
          have hs1 : (((((((((W5.setCell ⟨B3, 0, none⟩ (.int .i64 S.events)).setCell ⟨B3, 1, none⟩ (.slice kA S.keys.length kc)).setCell ⟨B3, 2, none⟩ (.slice aA S.chart.length ac)).setCell ⟨B3, 3, none⟩ (.slice rA S.rows.length rc)).setCell ⟨B3, 4, none⟩ (.slice none 0 0)).setCell ⟨B3, 5, none⟩ (.slice none 0 0)).setCell ⟨B3, 6, none⟩ (.slice none 0 0)).setCell ⟨B3, 7, none⟩ (.slice lA S.allots.length lc)).setCell ⟨B3, 8, none⟩ (.int .i64 S.lock)).heap.size = W5.heap.size := by simp [World.setCell]
          generalize (((((((((W5.setCell ⟨B3, 0, none⟩ (.int .i64 S.events)).setCell ⟨B3, 1, none⟩ (.slice kA S.keys.length kc)).setCell ⟨B3, 2, none⟩ (.slice aA S.chart.length ac)).setCell ⟨B3, 3, none⟩ (.slice rA S.rows.length rc)).setCell ⟨B3, 4, none⟩ (.slice none 0 0)).setCell ⟨B3, 5, none⟩ (.slice none 0 0)).setCell ⟨B3, 6, none⟩ (.slice none 0 0)).setCell ⟨B3, 7, none⟩ (.slice lA S.allots.length lc)).setCell ⟨B3, 8, none⟩ (.int .i64 S.lock)) = W1 at h9 hkp hb1 hs1 ⊢
          have hB3l' := heap_lt hz
          exact HKT B3 kA kc aA ac rA rc lA lc W1 hB3l h9 hb1 ((hkp w.heap.size (by omega)).trans ((HBV.out.block w.heap.size (by have := HV0S.out; omega)).trans HZ0.out)) (ownsRow_keep HKEY.out fun k e => hkp k (HKEYB.out k e)) (acc_keep HACC.out (by omega) fun k e => hkp k (HACCB.out k e)) (ownsRow_keep HROW.out fun k e => hkp k (HROWB.out k e)) (ownsRow_keep HALT.out fun k e => hkp k (HALTB.out k e))
            (fun k e => ⟨HKEYB.out k e, HKEY2.out k e⟩) (fun k e => ⟨HACCB.out k e, HACC2.out k e⟩) (fun k e => ⟨HROWB.out k e, HROW2.out k e⟩) (fun k e => ⟨HALTB.out k e, HALT2.out k e⟩)

        · go_simp
          have HB2 := Lib.hid (HB.out.alloc HB.out.size (.cells #[.int .i64 0, .slice none 0 0, .slice none 0 0, .slice none 0 0, .slice none 0 0, .slice none 0 0, .slice none 0 0, .slice none 0 0, .int .i64 0] 50))
          refine hK.out _ _ (fun _ => HS.out _ HB2.out) ?_
          clear hK K
          try simp only [Act.put, qa15, qb15, qc15, qd15, qe15, qf15]
          have hz := World.alloc_heap_new W3 (.cells #[.int .i64 0, .slice none 0 0, .slice none 0 0, .slice none 0 0, .slice none 0 0, .slice none 0 0, .slice none 0 0, .slice none 0 0, .int .i64 0] 50)
          obtain ⟨B3, hB3⟩ : ∃ B3, B3 = W3.heap.size := ⟨_, rfl⟩
          have hB3l : w.heap.size < B3 := by have := HV0S.out; have := HBV.out.size; omega
          rw [← hB3] at hz ⊢
          have HKEYB := Lib.hid (row_old HKEY.out hB3)
          have HKEY := Lib.hid (own_below HKEY.out (bel1 W3 (.cells #[.int .i64 0, .slice none 0 0, .slice none 0 0, .slice none 0 0, .slice none 0 0, .slice none 0 0, .slice none 0 0, .slice none 0 0, .int .i64 0] 50)))
          have HACCB := Lib.hid (acc_old HACC.out hB3)
          have HACC := Lib.hid (HACC.out.below (bel1 W3 (.cells #[.int .i64 0, .slice none 0 0, .slice none 0 0, .slice none 0 0, .slice none 0 0, .slice none 0 0, .slice none 0 0, .slice none 0 0, .int .i64 0] 50)))
          have HROWB := Lib.hid (row_old HROW.out hB3)
          have HROW := Lib.hid (own_below HROW.out (bel1 W3 (.cells #[.int .i64 0, .slice none 0 0, .slice none 0 0, .slice none 0 0, .slice none 0 0, .slice none 0 0, .slice none 0 0, .slice none 0 0, .int .i64 0] 50)))
          have HB := HB2
          have HBV := Lib.hid (HBV.out.alloc HBV.out.size (.cells #[.int .i64 0, .slice none 0 0, .slice none 0 0, .slice none 0 0, .slice none 0 0, .slice none 0 0, .slice none 0 0, .slice none 0 0, .int .i64 0] 50))
          generalize W3.alloc (.cells #[.int .i64 0, .slice none 0 0, .slice none 0 0, .slice none 0 0, .slice none 0 0, .slice none 0 0, .slice none 0 0, .slice none 0 0, .int .i64 0] 50) = W6 at hz HB HB2 HBV HKEY HACC HROW ⊢
          have hHeld := HS.out _ HB.out
          clear hB3 HB2
          refine wpAnyN_step (i := 23) (by kernel_rfl) rfl (fun K hK => ?_)
          go_simp
          go_at_call 36
          refine (HCL.out _ HB.out).mono ?_
          rintro en W7 ⟨rv, rfl, hown, hb⟩
          obtain ⟨lA, lc, hf⟩ := own_form hown
          subst hf
          have hz0 := hz
          have hz := (hb.block B3 (heap_lt hz)).trans hz
          have HKEY := Lib.hid (own_below HKEY.out hb)
          have HACC := Lib.hid (HACC.out.below hb)
          have HROW := Lib.hid (own_below HROW.out hb)
          have HALT := Lib.hid (hown.mono HB.out.size)
          have HALT2 := Lib.hid (row_ne hown (by have := HV0S.out; have := HBV.out.size; omega : w.heap.size < W6.heap.size))
          have HBV := Lib.hid (HBV.out.trans (hb.mono HBV.out.size))
          have HALTB := Lib.hid (row_ne hown (heap_lt hz0))
          have HB := Lib.hid (HB.out.trans (hb.mono HB.out.size))
          have hHeld := HS.out _ HB.out
          clear hown hb hz0
          go_wp2_with fail
          refine hK.out _ _ (fun _ => hHeld) ?_
          clear hK K
          try simp only [Act.put, qa15, qb15, qc15, qd15, qe15, qf15]
          refine tk15 (i := 28) (v := ?_) rfl ?y26 hHeld ?_
          case y26 => intro w0 hSw; (try dsimp only at hSw); go_simp; (try with_reducible rfl)
          try simp only [Act.put, qa15, qb15, qc15, qd15, qe15, qf15]
          have z0 : W7.cell? ⟨B3, 0, none⟩ = some (.int .i64 0) := by rw [cell_of_blk hz]; rfl
          have y0 := frozen_blk hz 0
          have z1 : W7.cell? ⟨B3, 1, none⟩ = some (.slice none 0 0) := by rw [cell_of_blk hz]; rfl
          have y1 := frozen_blk hz 1
          have z2 : W7.cell? ⟨B3, 2, none⟩ = some (.slice none 0 0) := by rw [cell_of_blk hz]; rfl
          have y2 := frozen_blk hz 2
          have z3 : W7.cell? ⟨B3, 3, none⟩ = some (.slice none 0 0) := by rw [cell_of_blk hz]; rfl
          have y3 := frozen_blk hz 3
          have z4 : W7.cell? ⟨B3, 4, none⟩ = some (.slice none 0 0) := by rw [cell_of_blk hz]; rfl
          have y4 := frozen_blk hz 4
          have z5 : W7.cell? ⟨B3, 5, none⟩ = some (.slice none 0 0) := by rw [cell_of_blk hz]; rfl
          have y5 := frozen_blk hz 5
          have z6 : W7.cell? ⟨B3, 6, none⟩ = some (.slice none 0 0) := by rw [cell_of_blk hz]; rfl
          have y6 := frozen_blk hz 6
          have z7 : W7.cell? ⟨B3, 7, none⟩ = some (.slice none 0 0) := by rw [cell_of_blk hz]; rfl
          have y7 := frozen_blk hz 7
          have z8 : W7.cell? ⟨B3, 8, none⟩ = some (.int .i64 0) := by rw [cell_of_blk hz]; rfl
          have y8 := frozen_blk hz 8
          refine wpAnyN_step (i := 30) (by kernel_rfl) rfl (fun K hK => ?_)
          go_simp
          refine hK.out _ _ (fun h => absurd h (by decide)) ?_
          clear hK K
          try simp only [Act.put, qa15, qb15, qc15, qd15, qe15, qf15]
          refine wpAnyN_done (by kernel_rfl) ?_ _
          have h0 := hz
          have h1 : (W7.setCell ⟨B3, 0, none⟩ (.int .i64 S.events)).heap[B3]? = some (.cells #[.int .i64 S.events, .slice none 0 0, .slice none 0 0, .slice none 0 0, .slice none 0 0, .slice none 0 0, .slice none 0 0, .slice none 0 0, .int .i64 0] 50 (0, 0)) := heap_setCell_same (i := 0) h0 (.int .i64 S.events)
          have h2 : ((W7.setCell ⟨B3, 0, none⟩ (.int .i64 S.events)).setCell ⟨B3, 1, none⟩ (.slice kA S.keys.length kc)).heap[B3]? = some (.cells #[.int .i64 S.events, .slice kA S.keys.length kc, .slice none 0 0, .slice none 0 0, .slice none 0 0, .slice none 0 0, .slice none 0 0, .slice none 0 0, .int .i64 0] 50 (0, 0)) := heap_setCell_same (i := 1) h1 (.slice kA S.keys.length kc)
          have h3 : (((W7.setCell ⟨B3, 0, none⟩ (.int .i64 S.events)).setCell ⟨B3, 1, none⟩ (.slice kA S.keys.length kc)).setCell ⟨B3, 2, none⟩ (.slice aA S.chart.length ac)).heap[B3]? = some (.cells #[.int .i64 S.events, .slice kA S.keys.length kc, .slice aA S.chart.length ac, .slice none 0 0, .slice none 0 0, .slice none 0 0, .slice none 0 0, .slice none 0 0, .int .i64 0] 50 (0, 0)) := heap_setCell_same (i := 2) h2 (.slice aA S.chart.length ac)
          have h4 : ((((W7.setCell ⟨B3, 0, none⟩ (.int .i64 S.events)).setCell ⟨B3, 1, none⟩ (.slice kA S.keys.length kc)).setCell ⟨B3, 2, none⟩ (.slice aA S.chart.length ac)).setCell ⟨B3, 3, none⟩ (.slice rA S.rows.length rc)).heap[B3]? = some (.cells #[.int .i64 S.events, .slice kA S.keys.length kc, .slice aA S.chart.length ac, .slice rA S.rows.length rc, .slice none 0 0, .slice none 0 0, .slice none 0 0, .slice none 0 0, .int .i64 0] 50 (0, 0)) := heap_setCell_same (i := 3) h3 (.slice rA S.rows.length rc)
          have h5 : (((((W7.setCell ⟨B3, 0, none⟩ (.int .i64 S.events)).setCell ⟨B3, 1, none⟩ (.slice kA S.keys.length kc)).setCell ⟨B3, 2, none⟩ (.slice aA S.chart.length ac)).setCell ⟨B3, 3, none⟩ (.slice rA S.rows.length rc)).setCell ⟨B3, 4, none⟩ (.slice none 0 0)).heap[B3]? = some (.cells #[.int .i64 S.events, .slice kA S.keys.length kc, .slice aA S.chart.length ac, .slice rA S.rows.length rc, .slice none 0 0, .slice none 0 0, .slice none 0 0, .slice none 0 0, .int .i64 0] 50 (0, 0)) := heap_setCell_same (i := 4) h4 (.slice none 0 0)
          have h6 : ((((((W7.setCell ⟨B3, 0, none⟩ (.int .i64 S.events)).setCell ⟨B3, 1, none⟩ (.slice kA S.keys.length kc)).setCell ⟨B3, 2, none⟩ (.slice aA S.chart.length ac)).setCell ⟨B3, 3, none⟩ (.slice rA S.rows.length rc)).setCell ⟨B3, 4, none⟩ (.slice none 0 0)).setCell ⟨B3, 5, none⟩ (.slice none 0 0)).heap[B3]? = some (.cells #[.int .i64 S.events, .slice kA S.keys.length kc, .slice aA S.chart.length ac, .slice rA S.rows.length rc, .slice none 0 0, .slice none 0 0, .slice none 0 0, .slice none 0 0, .int .i64 0] 50 (0, 0)) := heap_setCell_same (i := 5) h5 (.slice none 0 0)
          have h7 : (((((((W7.setCell ⟨B3, 0, none⟩ (.int .i64 S.events)).setCell ⟨B3, 1, none⟩ (.slice kA S.keys.length kc)).setCell ⟨B3, 2, none⟩ (.slice aA S.chart.length ac)).setCell ⟨B3, 3, none⟩ (.slice rA S.rows.length rc)).setCell ⟨B3, 4, none⟩ (.slice none 0 0)).setCell ⟨B3, 5, none⟩ (.slice none 0 0)).setCell ⟨B3, 6, none⟩ (.slice none 0 0)).heap[B3]? = some (.cells #[.int .i64 S.events, .slice kA S.keys.length kc, .slice aA S.chart.length ac, .slice rA S.rows.length rc, .slice none 0 0, .slice none 0 0, .slice none 0 0, .slice none 0 0, .int .i64 0] 50 (0, 0)) := heap_setCell_same (i := 6) h6 (.slice none 0 0)
          have h8 : ((((((((W7.setCell ⟨B3, 0, none⟩ (.int .i64 S.events)).setCell ⟨B3, 1, none⟩ (.slice kA S.keys.length kc)).setCell ⟨B3, 2, none⟩ (.slice aA S.chart.length ac)).setCell ⟨B3, 3, none⟩ (.slice rA S.rows.length rc)).setCell ⟨B3, 4, none⟩ (.slice none 0 0)).setCell ⟨B3, 5, none⟩ (.slice none 0 0)).setCell ⟨B3, 6, none⟩ (.slice none 0 0)).setCell ⟨B3, 7, none⟩ (.slice lA S.allots.length lc)).heap[B3]? = some (.cells #[.int .i64 S.events, .slice kA S.keys.length kc, .slice aA S.chart.length ac, .slice rA S.rows.length rc, .slice none 0 0, .slice none 0 0, .slice none 0 0, .slice lA S.allots.length lc, .int .i64 0] 50 (0, 0)) := heap_setCell_same (i := 7) h7 (.slice lA S.allots.length lc)
          have h9 : (((((((((W7.setCell ⟨B3, 0, none⟩ (.int .i64 S.events)).setCell ⟨B3, 1, none⟩ (.slice kA S.keys.length kc)).setCell ⟨B3, 2, none⟩ (.slice aA S.chart.length ac)).setCell ⟨B3, 3, none⟩ (.slice rA S.rows.length rc)).setCell ⟨B3, 4, none⟩ (.slice none 0 0)).setCell ⟨B3, 5, none⟩ (.slice none 0 0)).setCell ⟨B3, 6, none⟩ (.slice none 0 0)).setCell ⟨B3, 7, none⟩ (.slice lA S.allots.length lc)).setCell ⟨B3, 8, none⟩ (.int .i64 S.lock)).heap[B3]? = some (.cells #[.int .i64 S.events, .slice kA S.keys.length kc, .slice aA S.chart.length ac, .slice rA S.rows.length rc, .slice none 0 0, .slice none 0 0, .slice none 0 0, .slice lA S.allots.length lc, .int .i64 S.lock] 50 (0, 0)) := heap_setCell_same (i := 8) h8 (.int .i64 S.lock)
          have hkp : ∀ k, k ≠ B3 → (((((((((W7.setCell ⟨B3, 0, none⟩ (.int .i64 S.events)).setCell ⟨B3, 1, none⟩ (.slice kA S.keys.length kc)).setCell ⟨B3, 2, none⟩ (.slice aA S.chart.length ac)).setCell ⟨B3, 3, none⟩ (.slice rA S.rows.length rc)).setCell ⟨B3, 4, none⟩ (.slice none 0 0)).setCell ⟨B3, 5, none⟩ (.slice none 0 0)).setCell ⟨B3, 6, none⟩ (.slice none 0 0)).setCell ⟨B3, 7, none⟩ (.slice lA S.allots.length lc)).setCell ⟨B3, 8, none⟩ (.int .i64 S.lock)).heap[k]? = W7.heap[k]? := fun k hk => by
            repeat (refine (Below.heap_setCell _ _ _ _ hk).trans ?_)
            rfl
          have hb1 := (((((((((HB.out.setCell (p := ⟨B3, 0, none⟩) (by show w.heap.size ≤ B3; omega) (.int .i64 S.events)).setCell (p := ⟨B3, 1, none⟩) (by show w.heap.size ≤ B3; omega) (.slice kA S.keys.length kc)).setCell (p := ⟨B3, 2, none⟩) (by show w.heap.size ≤ B3; omega) (.slice aA S.chart.length ac)).setCell (p := ⟨B3, 3, none⟩) (by show w.heap.size ≤ B3; omega) (.slice rA S.rows.length rc)).setCell (p := ⟨B3, 4, none⟩) (by show w.heap.size ≤ B3; omega) (.slice none 0 0)).setCell (p := ⟨B3, 5, none⟩) (by show w.heap.size ≤ B3; omega) (.slice none 0 0)).setCell (p := ⟨B3, 6, none⟩) (by show w.heap.size ≤ B3; omega) (.slice none 0 0)).setCell (p := ⟨B3, 7, none⟩) (by show w.heap.size ≤ B3; omega) (.slice lA S.allots.length lc)).setCell (p := ⟨B3, 8, none⟩) (by show w.heap.size ≤ B3; omega) (.int .i64 S.lock))
          have hs1 : (((((((((W7.setCell ⟨B3, 0, none⟩ (.int .i64 S.events)).setCell ⟨B3, 1, none⟩ (.slice kA S.keys.length kc)).setCell ⟨B3, 2, none⟩ (.slice aA S.chart.length ac)).setCell ⟨B3, 3, none⟩ (.slice rA S.rows.length rc)).setCell ⟨B3, 4, none⟩ (.slice none 0 0)).setCell ⟨B3, 5, none⟩ (.slice none 0 0)).setCell ⟨B3, 6, none⟩ (.slice none 0 0)).setCell ⟨B3, 7, none⟩ (.slice lA S.allots.length lc)).setCell ⟨B3, 8, none⟩ (.int .i64 S.lock)).heap.size = W7.heap.size := by simp [World.setCell]
          generalize (((((((((W7.setCell ⟨B3, 0, none⟩ (.int .i64 S.events)).setCell ⟨B3, 1, none⟩ (.slice kA S.keys.length kc)).setCell ⟨B3, 2, none⟩ (.slice aA S.chart.length ac)).setCell ⟨B3, 3, none⟩ (.slice rA S.rows.length rc)).setCell ⟨B3, 4, none⟩ (.slice none 0 0)).setCell ⟨B3, 5, none⟩ (.slice none 0 0)).setCell ⟨B3, 6, none⟩ (.slice none 0 0)).setCell ⟨B3, 7, none⟩ (.slice lA S.allots.length lc)).setCell ⟨B3, 8, none⟩ (.int .i64 S.lock)) = W1 at h9 hkp hb1 hs1 ⊢
          have hB3l' := heap_lt hz
          exact HKT B3 kA kc aA ac rA rc lA lc W1 hB3l h9 hb1 ((hkp w.heap.size (by omega)).trans ((HBV.out.block w.heap.size (by have := HV0S.out; omega)).trans HZ0.out)) (ownsRow_keep HKEY.out fun k e => hkp k (HKEYB.out k e)) (acc_keep HACC.out (by omega) fun k e => hkp k (HACCB.out k e)) (ownsRow_keep HROW.out fun k e => hkp k (HROWB.out k e)) (ownsRow_keep HALT.out fun k e => hkp k (HALTB.out k e))
            (fun k e => ⟨HKEYB.out k e, HKEY2.out k e⟩) (fun k e => ⟨HACCB.out k e, HACC2.out k e⟩) (fun k e => ⟨HROWB.out k e, HROW2.out k e⟩) (fun k e => ⟨HALTB.out k e, HALT2.out k e⟩)

      · go_simp
        have HB2 := Lib.hid (HB.out.alloc HB.out.size (.cells #[.int .i64 0, .slice none 0 0, .slice none 0 0, .slice none 0 0, .slice none 0 0, .slice none 0 0, .slice none 0 0, .slice none 0 0, .int .i64 0] 50))
        refine hK.out _ _ (fun _ => HS.out _ HB2.out) ?_
        clear hK K
        try simp only [Act.put, qa15, qb15, qc15, qd15, qe15, qf15]
        have hz := World.alloc_heap_new W2 (.cells #[.int .i64 0, .slice none 0 0, .slice none 0 0, .slice none 0 0, .slice none 0 0, .slice none 0 0, .slice none 0 0, .slice none 0 0, .int .i64 0] 50)
        obtain ⟨B3, hB3⟩ : ∃ B3, B3 = W2.heap.size := ⟨_, rfl⟩
        have hB3l : w.heap.size < B3 := by have := HV0S.out; have := HBV.out.size; omega
        rw [← hB3] at hz ⊢
        have HKEYB := Lib.hid (row_old HKEY.out hB3)
        have HKEY := Lib.hid (own_below HKEY.out (bel1 W2 (.cells #[.int .i64 0, .slice none 0 0, .slice none 0 0, .slice none 0 0, .slice none 0 0, .slice none 0 0, .slice none 0 0, .slice none 0 0, .int .i64 0] 50)))
        have HACCB := Lib.hid (acc_old HACC.out hB3)
        have HACC := Lib.hid (HACC.out.below (bel1 W2 (.cells #[.int .i64 0, .slice none 0 0, .slice none 0 0, .slice none 0 0, .slice none 0 0, .slice none 0 0, .slice none 0 0, .slice none 0 0, .int .i64 0] 50)))
        have HB := HB2
        have HBV := Lib.hid (HBV.out.alloc HBV.out.size (.cells #[.int .i64 0, .slice none 0 0, .slice none 0 0, .slice none 0 0, .slice none 0 0, .slice none 0 0, .slice none 0 0, .slice none 0 0, .int .i64 0] 50))
        generalize W2.alloc (.cells #[.int .i64 0, .slice none 0 0, .slice none 0 0, .slice none 0 0, .slice none 0 0, .slice none 0 0, .slice none 0 0, .slice none 0 0, .int .i64 0] 50) = W9 at hz HB HB2 HBV HKEY HACC ⊢
        have hHeld := HS.out _ HB.out
        clear hB3 HB2
        refine wpAnyN_step (i := 18) (by kernel_rfl) rfl (fun K hK => ?_)
        go_simp
        go_at_call 35
        refine (HCR.out _ HB.out).mono ?_
        rintro en W10 ⟨rv, rfl, hown, hb⟩
        obtain ⟨rA, rc, hf⟩ := own_form hown
        subst hf
        have hz0 := hz
        have hz := (hb.block B3 (heap_lt hz)).trans hz
        have HKEY := Lib.hid (own_below HKEY.out hb)
        have HACC := Lib.hid (HACC.out.below hb)
        have HROW := Lib.hid (hown.mono HB.out.size)
        have HROW2 := Lib.hid (row_ne hown (by have := HV0S.out; have := HBV.out.size; omega : w.heap.size < W9.heap.size))
        have HBV := Lib.hid (HBV.out.trans (hb.mono HBV.out.size))
        have HROWB := Lib.hid (row_ne hown (heap_lt hz0))
        have HB := Lib.hid (HB.out.trans (hb.mono HB.out.size))
        have hHeld := HS.out _ HB.out
        clear hown hb hz0
        go_wp2_with fail
        refine hK.out _ _ (fun _ => hHeld) ?_
        clear hK K
        try simp only [Act.put, qa15, qb15, qc15, qd15, qe15, qf15]
        refine wpAnyN_step (i := 23) (by kernel_rfl) rfl (fun K hK => ?_)
        go_simp
        go_at_call 36
        refine (HCL.out _ HB.out).mono ?_
        rintro en W11 ⟨rv, rfl, hown, hb⟩
        obtain ⟨lA, lc, hf⟩ := own_form hown
        subst hf
        have hz0 := hz
        have hz := (hb.block B3 (heap_lt hz)).trans hz
        have HKEY := Lib.hid (own_below HKEY.out hb)
        have HACC := Lib.hid (HACC.out.below hb)
        have HROW := Lib.hid (own_below HROW.out hb)
        have HALT := Lib.hid (hown.mono HB.out.size)
        have HALT2 := Lib.hid (row_ne hown (by have := HV0S.out; have := HBV.out.size; omega : w.heap.size < W10.heap.size))
        have HBV := Lib.hid (HBV.out.trans (hb.mono HBV.out.size))
        have HALTB := Lib.hid (row_ne hown (heap_lt hz0))
        have HB := Lib.hid (HB.out.trans (hb.mono HB.out.size))
        have hHeld := HS.out _ HB.out
        clear hown hb hz0
        go_wp2_with fail
        refine hK.out _ _ (fun _ => hHeld) ?_
        clear hK K
        try simp only [Act.put, qa15, qb15, qc15, qd15, qe15, qf15]
        refine tk15 (i := 28) (v := ?_) rfl ?y27 hHeld ?_
        case y27 => intro w0 hSw; (try dsimp only at hSw); go_simp; (try with_reducible rfl)
        try simp only [Act.put, qa15, qb15, qc15, qd15, qe15, qf15]
        have z0 : W11.cell? ⟨B3, 0, none⟩ = some (.int .i64 0) := by rw [cell_of_blk hz]; rfl
        have y0 := frozen_blk hz 0
        have z1 : W11.cell? ⟨B3, 1, none⟩ = some (.slice none 0 0) := by rw [cell_of_blk hz]; rfl
        have y1 := frozen_blk hz 1
        have z2 : W11.cell? ⟨B3, 2, none⟩ = some (.slice none 0 0) := by rw [cell_of_blk hz]; rfl
        have y2 := frozen_blk hz 2
        have z3 : W11.cell? ⟨B3, 3, none⟩ = some (.slice none 0 0) := by rw [cell_of_blk hz]; rfl
        have y3 := frozen_blk hz 3
        have z4 : W11.cell? ⟨B3, 4, none⟩ = some (.slice none 0 0) := by rw [cell_of_blk hz]; rfl
        have y4 := frozen_blk hz 4
        have z5 : W11.cell? ⟨B3, 5, none⟩ = some (.slice none 0 0) := by rw [cell_of_blk hz]; rfl
        have y5 := frozen_blk hz 5
        have z6 : W11.cell? ⟨B3, 6, none⟩ = some (.slice none 0 0) := by rw [cell_of_blk hz]; rfl
        have y6 := frozen_blk hz 6
        have z7 : W11.cell? ⟨B3, 7, none⟩ = some (.slice none 0 0) := by rw [cell_of_blk hz]; rfl
        have y7 := frozen_blk hz 7
        have z8 : W11.cell? ⟨B3, 8, none⟩ = some (.int .i64 0) := by rw [cell_of_blk hz]; rfl
        have y8 := frozen_blk hz 8
        refine wpAnyN_step (i := 30) (by kernel_rfl) rfl (fun K hK => ?_)
        go_simp
        refine hK.out _ _ (fun h => absurd h (by decide)) ?_
        clear hK K
        try simp only [Act.put, qa15, qb15, qc15, qd15, qe15, qf15]
        refine wpAnyN_done (by kernel_rfl) ?_ _
        have h0 := hz
        have h1 : (W11.setCell ⟨B3, 0, none⟩ (.int .i64 S.events)).heap[B3]? = some (.cells #[.int .i64 S.events, .slice none 0 0, .slice none 0 0, .slice none 0 0, .slice none 0 0, .slice none 0 0, .slice none 0 0, .slice none 0 0, .int .i64 0] 50 (0, 0)) := heap_setCell_same (i := 0) h0 (.int .i64 S.events)
        have h2 : ((W11.setCell ⟨B3, 0, none⟩ (.int .i64 S.events)).setCell ⟨B3, 1, none⟩ (.slice kA S.keys.length kc)).heap[B3]? = some (.cells #[.int .i64 S.events, .slice kA S.keys.length kc, .slice none 0 0, .slice none 0 0, .slice none 0 0, .slice none 0 0, .slice none 0 0, .slice none 0 0, .int .i64 0] 50 (0, 0)) := heap_setCell_same (i := 1) h1 (.slice kA S.keys.length kc)
        have h3 : (((W11.setCell ⟨B3, 0, none⟩ (.int .i64 S.events)).setCell ⟨B3, 1, none⟩ (.slice kA S.keys.length kc)).setCell ⟨B3, 2, none⟩ (.slice aA S.chart.length ac)).heap[B3]? = some (.cells #[.int .i64 S.events, .slice kA S.keys.length kc, .slice aA S.chart.length ac, .slice none 0 0, .slice none 0 0, .slice none 0 0, .slice none 0 0, .slice none 0 0, .int .i64 0] 50 (0, 0)) := heap_setCell_same (i := 2) h2 (.slice aA S.chart.length ac)
        have h4 : ((((W11.setCell ⟨B3, 0, none⟩ (.int .i64 S.events)).setCell ⟨B3, 1, none⟩ (.slice kA S.keys.length kc)).setCell ⟨B3, 2, none⟩ (.slice aA S.chart.length ac)).setCell ⟨B3, 3, none⟩ (.slice rA S.rows.length rc)).heap[B3]? = some (.cells #[.int .i64 S.events, .slice kA S.keys.length kc, .slice aA S.chart.length ac, .slice rA S.rows.length rc, .slice none 0 0, .slice none 0 0, .slice none 0 0, .slice none 0 0, .int .i64 0] 50 (0, 0)) := heap_setCell_same (i := 3) h3 (.slice rA S.rows.length rc)
        have h5 : (((((W11.setCell ⟨B3, 0, none⟩ (.int .i64 S.events)).setCell ⟨B3, 1, none⟩ (.slice kA S.keys.length kc)).setCell ⟨B3, 2, none⟩ (.slice aA S.chart.length ac)).setCell ⟨B3, 3, none⟩ (.slice rA S.rows.length rc)).setCell ⟨B3, 4, none⟩ (.slice none 0 0)).heap[B3]? = some (.cells #[.int .i64 S.events, .slice kA S.keys.length kc, .slice aA S.chart.length ac, .slice rA S.rows.length rc, .slice none 0 0, .slice none 0 0, .slice none 0 0, .slice none 0 0, .int .i64 0] 50 (0, 0)) := heap_setCell_same (i := 4) h4 (.slice none 0 0)
        have h6 : ((((((W11.setCell ⟨B3, 0, none⟩ (.int .i64 S.events)).setCell ⟨B3, 1, none⟩ (.slice kA S.keys.length kc)).setCell ⟨B3, 2, none⟩ (.slice aA S.chart.length ac)).setCell ⟨B3, 3, none⟩ (.slice rA S.rows.length rc)).setCell ⟨B3, 4, none⟩ (.slice none 0 0)).setCell ⟨B3, 5, none⟩ (.slice none 0 0)).heap[B3]? = some (.cells #[.int .i64 S.events, .slice kA S.keys.length kc, .slice aA S.chart.length ac, .slice rA S.rows.length rc, .slice none 0 0, .slice none 0 0, .slice none 0 0, .slice none 0 0, .int .i64 0] 50 (0, 0)) := heap_setCell_same (i := 5) h5 (.slice none 0 0)
        have h7 : (((((((W11.setCell ⟨B3, 0, none⟩ (.int .i64 S.events)).setCell ⟨B3, 1, none⟩ (.slice kA S.keys.length kc)).setCell ⟨B3, 2, none⟩ (.slice aA S.chart.length ac)).setCell ⟨B3, 3, none⟩ (.slice rA S.rows.length rc)).setCell ⟨B3, 4, none⟩ (.slice none 0 0)).setCell ⟨B3, 5, none⟩ (.slice none 0 0)).setCell ⟨B3, 6, none⟩ (.slice none 0 0)).heap[B3]? = some (.cells #[.int .i64 S.events, .slice kA S.keys.length kc, .slice aA S.chart.length ac, .slice rA S.rows.length rc, .slice none 0 0, .slice none 0 0, .slice none 0 0, .slice none 0 0, .int .i64 0] 50 (0, 0)) := heap_setCell_same (i := 6) h6 (.slice none 0 0)
        have h8 : ((((((((W11.setCell ⟨B3, 0, none⟩ (.int .i64 S.events)).setCell ⟨B3, 1, none⟩ (.slice kA S.keys.length kc)).setCell ⟨B3, 2, none⟩ (.slice aA S.chart.length ac)).setCell ⟨B3, 3, none⟩ (.slice rA S.rows.length rc)).setCell ⟨B3, 4, none⟩ (.slice none 0 0)).setCell ⟨B3, 5, none⟩ (.slice none 0 0)).setCell ⟨B3, 6, none⟩ (.slice none 0 0)).setCell ⟨B3, 7, none⟩ (.slice lA S.allots.length lc)).heap[B3]? = some (.cells #[.int .i64 S.events, .slice kA S.keys.length kc, .slice aA S.chart.length ac, .slice rA S.rows.length rc, .slice none 0 0, .slice none 0 0, .slice none 0 0, .slice lA S.allots.length lc, .int .i64 0] 50 (0, 0)) := heap_setCell_same (i := 7) h7 (.slice lA S.allots.length lc)
        have h9 : (((((((((W11.setCell ⟨B3, 0, none⟩ (.int .i64 S.events)).setCell ⟨B3, 1, none⟩ (.slice kA S.keys.length kc)).setCell ⟨B3, 2, none⟩ (.slice aA S.chart.length ac)).setCell ⟨B3, 3, none⟩ (.slice rA S.rows.length rc)).setCell ⟨B3, 4, none⟩ (.slice none 0 0)).setCell ⟨B3, 5, none⟩ (.slice none 0 0)).setCell ⟨B3, 6, none⟩ (.slice none 0 0)).setCell ⟨B3, 7, none⟩ (.slice lA S.allots.length lc)).setCell ⟨B3, 8, none⟩ (.int .i64 S.lock)).heap[B3]? = some (.cells #[.int .i64 S.events, .slice kA S.keys.length kc, .slice aA S.chart.length ac, .slice rA S.rows.length rc, .slice none 0 0, .slice none 0 0, .slice none 0 0, .slice lA S.allots.length lc, .int .i64 S.lock] 50 (0, 0)) := heap_setCell_same (i := 8) h8 (.int .i64 S.lock)
        have hkp : ∀ k, k ≠ B3 → (((((((((W11.setCell ⟨B3, 0, none⟩ (.int .i64 S.events)).setCell ⟨B3, 1, none⟩ (.slice kA S.keys.length kc)).setCell ⟨B3, 2, none⟩ (.slice aA S.chart.length ac)).setCell ⟨B3, 3, none⟩ (.slice rA S.rows.length rc)).setCell ⟨B3, 4, none⟩ (.slice none 0 0)).setCell ⟨B3, 5, none⟩ (.slice none 0 0)).setCell ⟨B3, 6, none⟩ (.slice none 0 0)).setCell ⟨B3, 7, none⟩ (.slice lA S.allots.length lc)).setCell ⟨B3, 8, none⟩ (.int .i64 S.lock)).heap[k]? = W11.heap[k]? := fun k hk => by
          repeat (refine (Below.heap_setCell _ _ _ _ hk).trans ?_)
          rfl
        have hb1 := (((((((((HB.out.setCell (p := ⟨B3, 0, none⟩) (by show w.heap.size ≤ B3; omega) (.int .i64 S.events)).setCell (p := ⟨B3, 1, none⟩) (by show w.heap.size ≤ B3; omega) (.slice kA S.keys.length kc)).setCell (p := ⟨B3, 2, none⟩) (by show w.heap.size ≤ B3; omega) (.slice aA S.chart.length ac)).setCell (p := ⟨B3, 3, none⟩) (by show w.heap.size ≤ B3; omega) (.slice rA S.rows.length rc)).setCell (p := ⟨B3, 4, none⟩) (by show w.heap.size ≤ B3; omega) (.slice none 0 0)).setCell (p := ⟨B3, 5, none⟩) (by show w.heap.size ≤ B3; omega) (.slice none 0 0)).setCell (p := ⟨B3, 6, none⟩) (by show w.heap.size ≤ B3; omega) (.slice none 0 0)).setCell (p := ⟨B3, 7, none⟩) (by show w.heap.size ≤ B3; omega) (.slice lA S.allots.length lc)).setCell (p := ⟨B3, 8, none⟩) (by show w.heap.size ≤ B3; omega) (.int .i64 S.lock))
        have hs1 : (((((((((W11.setCell ⟨B3, 0, none⟩ (.int .i64 S.events)).setCell ⟨B3, 1, none⟩ (.slice kA S.keys.length kc)).setCell ⟨B3, 2, none⟩ (.slice aA S.chart.length ac)).setCell ⟨B3, 3, none⟩ (.slice rA S.rows.length rc)).setCell ⟨B3, 4, none⟩ (.slice none 0 0)).setCell ⟨B3, 5, none⟩ (.slice none 0 0)).setCell ⟨B3, 6, none⟩ (.slice none 0 0)).setCell ⟨B3, 7, none⟩ (.slice lA S.allots.length lc)).setCell ⟨B3, 8, none⟩ (.int .i64 S.lock)).heap.size = W11.heap.size := by simp [World.setCell]
        generalize (((((((((W11.setCell ⟨B3, 0, none⟩ (.int .i64 S.events)).setCell ⟨B3, 1, none⟩ (.slice kA S.keys.length kc)).setCell ⟨B3, 2, none⟩ (.slice aA S.chart.length ac)).setCell ⟨B3, 3, none⟩ (.slice rA S.rows.length rc)).setCell ⟨B3, 4, none⟩ (.slice none 0 0)).setCell ⟨B3, 5, none⟩ (.slice none 0 0)).setCell ⟨B3, 6, none⟩ (.slice none 0 0)).setCell ⟨B3, 7, none⟩ (.slice lA S.allots.length lc)).setCell ⟨B3, 8, none⟩ (.int .i64 S.lock)) = W1 at h9 hkp hb1 hs1 ⊢
        have hB3l' := heap_lt hz
        exact HKT B3 kA kc aA ac rA rc lA lc W1 hB3l h9 hb1 ((hkp w.heap.size (by omega)).trans ((HBV.out.block w.heap.size (by have := HV0S.out; omega)).trans HZ0.out)) (ownsRow_keep HKEY.out fun k e => hkp k (HKEYB.out k e)) (acc_keep HACC.out (by omega) fun k e => hkp k (HACCB.out k e)) (ownsRow_keep HROW.out fun k e => hkp k (HROWB.out k e)) (ownsRow_keep HALT.out fun k e => hkp k (HALTB.out k e))
          (fun k e => ⟨HKEYB.out k e, HKEY2.out k e⟩) (fun k e => ⟨HACCB.out k e, HACC2.out k e⟩) (fun k e => ⟨HROWB.out k e, HROW2.out k e⟩) (fun k e => ⟨HALTB.out k e, HALT2.out k e⟩)

    · go_simp
      have HB2 := Lib.hid (HB.out.alloc HB.out.size (.cells #[.int .i64 0, .slice none 0 0, .slice none 0 0, .slice none 0 0, .slice none 0 0, .slice none 0 0, .slice none 0 0, .slice none 0 0, .int .i64 0] 50))
      refine hK.out _ _ (fun _ => HS.out _ HB2.out) ?_
      clear hK K
      try simp only [Act.put, qa15, qb15, qc15, qd15, qe15, qf15]
      have hz := World.alloc_heap_new W1 (.cells #[.int .i64 0, .slice none 0 0, .slice none 0 0, .slice none 0 0, .slice none 0 0, .slice none 0 0, .slice none 0 0, .slice none 0 0, .int .i64 0] 50)
      obtain ⟨B3, hB3⟩ : ∃ B3, B3 = W1.heap.size := ⟨_, rfl⟩
      have hB3l : w.heap.size < B3 := by have := HV0S.out; have := HBV.out.size; omega
      rw [← hB3] at hz ⊢
      have HKEYB := Lib.hid (row_old HKEY.out hB3)
      have HKEY := Lib.hid (own_below HKEY.out (bel1 W1 (.cells #[.int .i64 0, .slice none 0 0, .slice none 0 0, .slice none 0 0, .slice none 0 0, .slice none 0 0, .slice none 0 0, .slice none 0 0, .int .i64 0] 50)))
      have HB := HB2
      have HBV := Lib.hid (HBV.out.alloc HBV.out.size (.cells #[.int .i64 0, .slice none 0 0, .slice none 0 0, .slice none 0 0, .slice none 0 0, .slice none 0 0, .slice none 0 0, .slice none 0 0, .int .i64 0] 50))
      generalize W1.alloc (.cells #[.int .i64 0, .slice none 0 0, .slice none 0 0, .slice none 0 0, .slice none 0 0, .slice none 0 0, .slice none 0 0, .slice none 0 0, .int .i64 0] 50) = W13 at hz HB HB2 HBV HKEY ⊢
      have hHeld := HS.out _ HB.out
      clear hB3 HB2
      refine wpAnyN_step (i := 13) (by kernel_rfl) rfl (fun K hK => ?_)
      go_simp
      go_at_call 34
      refine (HCA.out _ HB.out).mono ?_
      rintro en W14 ⟨rv, rfl, hown, hb⟩
      obtain ⟨aA, ac, hf⟩ := acc_form hown
      subst hf
      have hz0 := hz
      have hz := (hb.block B3 (heap_lt hz)).trans hz
      have HKEY := Lib.hid (own_below HKEY.out hb)
      have HACC := Lib.hid (accRow_mono hown HB.out.size)
      have HACC2 := Lib.hid (acc_ne hown (by have := HV0S.out; have := HBV.out.size; omega : w.heap.size < W13.heap.size))
      have HBV := Lib.hid (HBV.out.trans (hb.mono HBV.out.size))
      have HACCB := Lib.hid (acc_ne hown (heap_lt hz0))
      have HB := Lib.hid (HB.out.trans (hb.mono HB.out.size))
      have hHeld := HS.out _ HB.out
      clear hown hb hz0
      go_wp2_with fail
      refine hK.out _ _ (fun _ => hHeld) ?_
      clear hK K
      try simp only [Act.put, qa15, qb15, qc15, qd15, qe15, qf15]
      refine wpAnyN_step (i := 18) (by kernel_rfl) rfl (fun K hK => ?_)
      go_simp
      go_at_call 35
      refine (HCR.out _ HB.out).mono ?_
      rintro en W15 ⟨rv, rfl, hown, hb⟩
      obtain ⟨rA, rc, hf⟩ := own_form hown
      subst hf
      have hz0 := hz
      have hz := (hb.block B3 (heap_lt hz)).trans hz
      have HKEY := Lib.hid (own_below HKEY.out hb)
      have HACC := Lib.hid (HACC.out.below hb)
      have HROW := Lib.hid (hown.mono HB.out.size)
      have HROW2 := Lib.hid (row_ne hown (by have := HV0S.out; have := HBV.out.size; omega : w.heap.size < W14.heap.size))
      have HBV := Lib.hid (HBV.out.trans (hb.mono HBV.out.size))
      have HROWB := Lib.hid (row_ne hown (heap_lt hz0))
      have HB := Lib.hid (HB.out.trans (hb.mono HB.out.size))
      have hHeld := HS.out _ HB.out
      clear hown hb hz0
      go_wp2_with fail
      refine hK.out _ _ (fun _ => hHeld) ?_
      clear hK K
      try simp only [Act.put, qa15, qb15, qc15, qd15, qe15, qf15]
      refine wpAnyN_step (i := 23) (by kernel_rfl) rfl (fun K hK => ?_)
      go_simp
      go_at_call 36
      refine (HCL.out _ HB.out).mono ?_
      rintro en W16 ⟨rv, rfl, hown, hb⟩
      obtain ⟨lA, lc, hf⟩ := own_form hown
      subst hf
      have hz0 := hz
      have hz := (hb.block B3 (heap_lt hz)).trans hz
      have HKEY := Lib.hid (own_below HKEY.out hb)
      have HACC := Lib.hid (HACC.out.below hb)
      have HROW := Lib.hid (own_below HROW.out hb)
      have HALT := Lib.hid (hown.mono HB.out.size)
      have HALT2 := Lib.hid (row_ne hown (by have := HV0S.out; have := HBV.out.size; omega : w.heap.size < W15.heap.size))
      have HBV := Lib.hid (HBV.out.trans (hb.mono HBV.out.size))
      have HALTB := Lib.hid (row_ne hown (heap_lt hz0))
      have HB := Lib.hid (HB.out.trans (hb.mono HB.out.size))
      have hHeld := HS.out _ HB.out
      clear hown hb hz0
      go_wp2_with fail
      refine hK.out _ _ (fun _ => hHeld) ?_
      clear hK K
      try simp only [Act.put, qa15, qb15, qc15, qd15, qe15, qf15]
      refine tk15 (i := 28) (v := ?_) rfl ?y28 hHeld ?_
      case y28 => intro w0 hSw; (try dsimp only at hSw); go_simp; (try with_reducible rfl)
      try simp only [Act.put, qa15, qb15, qc15, qd15, qe15, qf15]
      have z0 : W16.cell? ⟨B3, 0, none⟩ = some (.int .i64 0) := by rw [cell_of_blk hz]; rfl
      have y0 := frozen_blk hz 0
      have z1 : W16.cell? ⟨B3, 1, none⟩ = some (.slice none 0 0) := by rw [cell_of_blk hz]; rfl
      have y1 := frozen_blk hz 1
      have z2 : W16.cell? ⟨B3, 2, none⟩ = some (.slice none 0 0) := by rw [cell_of_blk hz]; rfl
      have y2 := frozen_blk hz 2
      have z3 : W16.cell? ⟨B3, 3, none⟩ = some (.slice none 0 0) := by rw [cell_of_blk hz]; rfl
      have y3 := frozen_blk hz 3
      have z4 : W16.cell? ⟨B3, 4, none⟩ = some (.slice none 0 0) := by rw [cell_of_blk hz]; rfl
      have y4 := frozen_blk hz 4
      have z5 : W16.cell? ⟨B3, 5, none⟩ = some (.slice none 0 0) := by rw [cell_of_blk hz]; rfl
      have y5 := frozen_blk hz 5
      have z6 : W16.cell? ⟨B3, 6, none⟩ = some (.slice none 0 0) := by rw [cell_of_blk hz]; rfl
      have y6 := frozen_blk hz 6
      have z7 : W16.cell? ⟨B3, 7, none⟩ = some (.slice none 0 0) := by rw [cell_of_blk hz]; rfl
      have y7 := frozen_blk hz 7
      have z8 : W16.cell? ⟨B3, 8, none⟩ = some (.int .i64 0) := by rw [cell_of_blk hz]; rfl
      have y8 := frozen_blk hz 8
      refine wpAnyN_step (i := 30) (by kernel_rfl) rfl (fun K hK => ?_)
      go_simp
      refine hK.out _ _ (fun h => absurd h (by decide)) ?_
      clear hK K
      try simp only [Act.put, qa15, qb15, qc15, qd15, qe15, qf15]
      refine wpAnyN_done (by kernel_rfl) ?_ _
      have h0 := hz
      have h1 : (W16.setCell ⟨B3, 0, none⟩ (.int .i64 S.events)).heap[B3]? = some (.cells #[.int .i64 S.events, .slice none 0 0, .slice none 0 0, .slice none 0 0, .slice none 0 0, .slice none 0 0, .slice none 0 0, .slice none 0 0, .int .i64 0] 50 (0, 0)) := heap_setCell_same (i := 0) h0 (.int .i64 S.events)
      have h2 : ((W16.setCell ⟨B3, 0, none⟩ (.int .i64 S.events)).setCell ⟨B3, 1, none⟩ (.slice kA S.keys.length kc)).heap[B3]? = some (.cells #[.int .i64 S.events, .slice kA S.keys.length kc, .slice none 0 0, .slice none 0 0, .slice none 0 0, .slice none 0 0, .slice none 0 0, .slice none 0 0, .int .i64 0] 50 (0, 0)) := heap_setCell_same (i := 1) h1 (.slice kA S.keys.length kc)
      have h3 : (((W16.setCell ⟨B3, 0, none⟩ (.int .i64 S.events)).setCell ⟨B3, 1, none⟩ (.slice kA S.keys.length kc)).setCell ⟨B3, 2, none⟩ (.slice aA S.chart.length ac)).heap[B3]? = some (.cells #[.int .i64 S.events, .slice kA S.keys.length kc, .slice aA S.chart.length ac, .slice none 0 0, .slice none 0 0, .slice none 0 0, .slice none 0 0, .slice none 0 0, .int .i64 0] 50 (0, 0)) := heap_setCell_same (i := 2) h2 (.slice aA S.chart.length ac)
      have h4 : ((((W16.setCell ⟨B3, 0, none⟩ (.int .i64 S.events)).setCell ⟨B3, 1, none⟩ (.slice kA S.keys.length kc)).setCell ⟨B3, 2, none⟩ (.slice aA S.chart.length ac)).setCell ⟨B3, 3, none⟩ (.slice rA S.rows.length rc)).heap[B3]? = some (.cells #[.int .i64 S.events, .slice kA S.keys.length kc, .slice aA S.chart.length ac, .slice rA S.rows.length rc, .slice none 0 0, .slice none 0 0, .slice none 0 0, .slice none 0 0, .int .i64 0] 50 (0, 0)) := heap_setCell_same (i := 3) h3 (.slice rA S.rows.length rc)
      have h5 : (((((W16.setCell ⟨B3, 0, none⟩ (.int .i64 S.events)).setCell ⟨B3, 1, none⟩ (.slice kA S.keys.length kc)).setCell ⟨B3, 2, none⟩ (.slice aA S.chart.length ac)).setCell ⟨B3, 3, none⟩ (.slice rA S.rows.length rc)).setCell ⟨B3, 4, none⟩ (.slice none 0 0)).heap[B3]? = some (.cells #[.int .i64 S.events, .slice kA S.keys.length kc, .slice aA S.chart.length ac, .slice rA S.rows.length rc, .slice none 0 0, .slice none 0 0, .slice none 0 0, .slice none 0 0, .int .i64 0] 50 (0, 0)) := heap_setCell_same (i := 4) h4 (.slice none 0 0)
      have h6 : ((((((W16.setCell ⟨B3, 0, none⟩ (.int .i64 S.events)).setCell ⟨B3, 1, none⟩ (.slice kA S.keys.length kc)).setCell ⟨B3, 2, none⟩ (.slice aA S.chart.length ac)).setCell ⟨B3, 3, none⟩ (.slice rA S.rows.length rc)).setCell ⟨B3, 4, none⟩ (.slice none 0 0)).setCell ⟨B3, 5, none⟩ (.slice none 0 0)).heap[B3]? = some (.cells #[.int .i64 S.events, .slice kA S.keys.length kc, .slice aA S.chart.length ac, .slice rA S.rows.length rc, .slice none 0 0, .slice none 0 0, .slice none 0 0, .slice none 0 0, .int .i64 0] 50 (0, 0)) := heap_setCell_same (i := 5) h5 (.slice none 0 0)
      have h7 : (((((((W16.setCell ⟨B3, 0, none⟩ (.int .i64 S.events)).setCell ⟨B3, 1, none⟩ (.slice kA S.keys.length kc)).setCell ⟨B3, 2, none⟩ (.slice aA S.chart.length ac)).setCell ⟨B3, 3, none⟩ (.slice rA S.rows.length rc)).setCell ⟨B3, 4, none⟩ (.slice none 0 0)).setCell ⟨B3, 5, none⟩ (.slice none 0 0)).setCell ⟨B3, 6, none⟩ (.slice none 0 0)).heap[B3]? = some (.cells #[.int .i64 S.events, .slice kA S.keys.length kc, .slice aA S.chart.length ac, .slice rA S.rows.length rc, .slice none 0 0, .slice none 0 0, .slice none 0 0, .slice none 0 0, .int .i64 0] 50 (0, 0)) := heap_setCell_same (i := 6) h6 (.slice none 0 0)
      have h8 : ((((((((W16.setCell ⟨B3, 0, none⟩ (.int .i64 S.events)).setCell ⟨B3, 1, none⟩ (.slice kA S.keys.length kc)).setCell ⟨B3, 2, none⟩ (.slice aA S.chart.length ac)).setCell ⟨B3, 3, none⟩ (.slice rA S.rows.length rc)).setCell ⟨B3, 4, none⟩ (.slice none 0 0)).setCell ⟨B3, 5, none⟩ (.slice none 0 0)).setCell ⟨B3, 6, none⟩ (.slice none 0 0)).setCell ⟨B3, 7, none⟩ (.slice lA S.allots.length lc)).heap[B3]? = some (.cells #[.int .i64 S.events, .slice kA S.keys.length kc, .slice aA S.chart.length ac, .slice rA S.rows.length rc, .slice none 0 0, .slice none 0 0, .slice none 0 0, .slice lA S.allots.length lc, .int .i64 0] 50 (0, 0)) := heap_setCell_same (i := 7) h7 (.slice lA S.allots.length lc)
      have h9 : (((((((((W16.setCell ⟨B3, 0, none⟩ (.int .i64 S.events)).setCell ⟨B3, 1, none⟩ (.slice kA S.keys.length kc)).setCell ⟨B3, 2, none⟩ (.slice aA S.chart.length ac)).setCell ⟨B3, 3, none⟩ (.slice rA S.rows.length rc)).setCell ⟨B3, 4, none⟩ (.slice none 0 0)).setCell ⟨B3, 5, none⟩ (.slice none 0 0)).setCell ⟨B3, 6, none⟩ (.slice none 0 0)).setCell ⟨B3, 7, none⟩ (.slice lA S.allots.length lc)).setCell ⟨B3, 8, none⟩ (.int .i64 S.lock)).heap[B3]? = some (.cells #[.int .i64 S.events, .slice kA S.keys.length kc, .slice aA S.chart.length ac, .slice rA S.rows.length rc, .slice none 0 0, .slice none 0 0, .slice none 0 0, .slice lA S.allots.length lc, .int .i64 S.lock] 50 (0, 0)) := heap_setCell_same (i := 8) h8 (.int .i64 S.lock)
      have hkp : ∀ k, k ≠ B3 → (((((((((W16.setCell ⟨B3, 0, none⟩ (.int .i64 S.events)).setCell ⟨B3, 1, none⟩ (.slice kA S.keys.length kc)).setCell ⟨B3, 2, none⟩ (.slice aA S.chart.length ac)).setCell ⟨B3, 3, none⟩ (.slice rA S.rows.length rc)).setCell ⟨B3, 4, none⟩ (.slice none 0 0)).setCell ⟨B3, 5, none⟩ (.slice none 0 0)).setCell ⟨B3, 6, none⟩ (.slice none 0 0)).setCell ⟨B3, 7, none⟩ (.slice lA S.allots.length lc)).setCell ⟨B3, 8, none⟩ (.int .i64 S.lock)).heap[k]? = W16.heap[k]? := fun k hk => by
        repeat (refine (Below.heap_setCell _ _ _ _ hk).trans ?_)
        rfl
      have hb1 := (((((((((HB.out.setCell (p := ⟨B3, 0, none⟩) (by show w.heap.size ≤ B3; omega) (.int .i64 S.events)).setCell (p := ⟨B3, 1, none⟩) (by show w.heap.size ≤ B3; omega) (.slice kA S.keys.length kc)).setCell (p := ⟨B3, 2, none⟩) (by show w.heap.size ≤ B3; omega) (.slice aA S.chart.length ac)).setCell (p := ⟨B3, 3, none⟩) (by show w.heap.size ≤ B3; omega) (.slice rA S.rows.length rc)).setCell (p := ⟨B3, 4, none⟩) (by show w.heap.size ≤ B3; omega) (.slice none 0 0)).setCell (p := ⟨B3, 5, none⟩) (by show w.heap.size ≤ B3; omega) (.slice none 0 0)).setCell (p := ⟨B3, 6, none⟩) (by show w.heap.size ≤ B3; omega) (.slice none 0 0)).setCell (p := ⟨B3, 7, none⟩) (by show w.heap.size ≤ B3; omega) (.slice lA S.allots.length lc)).setCell (p := ⟨B3, 8, none⟩) (by show w.heap.size ≤ B3; omega) (.int .i64 S.lock))
      have hs1 : (((((((((W16.setCell ⟨B3, 0, none⟩ (.int .i64 S.events)).setCell ⟨B3, 1, none⟩ (.slice kA S.keys.length kc)).setCell ⟨B3, 2, none⟩ (.slice aA S.chart.length ac)).setCell ⟨B3, 3, none⟩ (.slice rA S.rows.length rc)).setCell ⟨B3, 4, none⟩ (.slice none 0 0)).setCell ⟨B3, 5, none⟩ (.slice none 0 0)).setCell ⟨B3, 6, none⟩ (.slice none 0 0)).setCell ⟨B3, 7, none⟩ (.slice lA S.allots.length lc)).setCell ⟨B3, 8, none⟩ (.int .i64 S.lock)).heap.size = W16.heap.size := by simp [World.setCell]
      generalize (((((((((W16.setCell ⟨B3, 0, none⟩ (.int .i64 S.events)).setCell ⟨B3, 1, none⟩ (.slice kA S.keys.length kc)).setCell ⟨B3, 2, none⟩ (.slice aA S.chart.length ac)).setCell ⟨B3, 3, none⟩ (.slice rA S.rows.length rc)).setCell ⟨B3, 4, none⟩ (.slice none 0 0)).setCell ⟨B3, 5, none⟩ (.slice none 0 0)).setCell ⟨B3, 6, none⟩ (.slice none 0 0)).setCell ⟨B3, 7, none⟩ (.slice lA S.allots.length lc)).setCell ⟨B3, 8, none⟩ (.int .i64 S.lock)) = W1 at h9 hkp hb1 hs1 ⊢
      have hB3l' := heap_lt hz
      exact HKT B3 kA kc aA ac rA rc lA lc W1 hB3l h9 hb1 ((hkp w.heap.size (by omega)).trans ((HBV.out.block w.heap.size (by have := HV0S.out; omega)).trans HZ0.out)) (ownsRow_keep HKEY.out fun k e => hkp k (HKEYB.out k e)) (acc_keep HACC.out (by omega) fun k e => hkp k (HACCB.out k e)) (ownsRow_keep HROW.out fun k e => hkp k (HROWB.out k e)) (ownsRow_keep HALT.out fun k e => hkp k (HALTB.out k e))
        (fun k e => ⟨HKEYB.out k e, HKEY2.out k e⟩) (fun k e => ⟨HACCB.out k e, HACC2.out k e⟩) (fun k e => ⟨HROWB.out k e, HROW2.out k e⟩) (fun k e => ⟨HALTB.out k e, HALT2.out k e⟩)

  · go_simp
    have HB2 := Lib.hid (HB.out.alloc HB.out.size (.cells #[.int .i64 0, .slice none 0 0, .slice none 0 0, .slice none 0 0, .slice none 0 0, .slice none 0 0, .slice none 0 0, .slice none 0 0, .int .i64 0] 50))
    refine hK.out _ _ (fun _ => HS.out _ HB2.out) ?_
    clear hK K
    try simp only [Act.put, qa15, qb15, qc15, qd15, qe15, qf15]
    have hz := World.alloc_heap_new V0 (.cells #[.int .i64 0, .slice none 0 0, .slice none 0 0, .slice none 0 0, .slice none 0 0, .slice none 0 0, .slice none 0 0, .slice none 0 0, .int .i64 0] 50)
    obtain ⟨B3, hB3⟩ : ∃ B3, B3 = V0.heap.size := ⟨_, rfl⟩
    have hB3l : w.heap.size < B3 := by have := HV0S.out; have := HBV.out.size; omega
    rw [← hB3] at hz ⊢
    have HB := HB2
    have HBV := Lib.hid (HBV.out.alloc HBV.out.size (.cells #[.int .i64 0, .slice none 0 0, .slice none 0 0, .slice none 0 0, .slice none 0 0, .slice none 0 0, .slice none 0 0, .slice none 0 0, .int .i64 0] 50))
    generalize V0.alloc (.cells #[.int .i64 0, .slice none 0 0, .slice none 0 0, .slice none 0 0, .slice none 0 0, .slice none 0 0, .slice none 0 0, .slice none 0 0, .int .i64 0] 50) = W18 at hz HB HB2 HBV ⊢
    have hHeld := HS.out _ HB.out
    clear hB3 HB2
    refine wpAnyN_step (i := 8) (by kernel_rfl) rfl (fun K hK => ?_)
    go_simp
    go_at_call 33
    refine (HCK.out _ HB.out).mono ?_
    rintro en W19 ⟨rv, rfl, hown, hb⟩
    obtain ⟨kA, kc, hf⟩ := own_form hown
    subst hf
    have hz0 := hz
    have hz := (hb.block B3 (heap_lt hz)).trans hz
    have HKEY := Lib.hid (hown.mono HB.out.size)
    have HKEY2 := Lib.hid (row_ne hown (by have := HV0S.out; have := HBV.out.size; omega : w.heap.size < W18.heap.size))
    have HBV := Lib.hid (HBV.out.trans (hb.mono HBV.out.size))
    have HKEYB := Lib.hid (row_ne hown (heap_lt hz0))
    have HB := Lib.hid (HB.out.trans (hb.mono HB.out.size))
    have hHeld := HS.out _ HB.out
    clear hown hb hz0
    go_wp2_with fail
    refine hK.out _ _ (fun _ => hHeld) ?_
    clear hK K
    try simp only [Act.put, qa15, qb15, qc15, qd15, qe15, qf15]
    refine wpAnyN_step (i := 13) (by kernel_rfl) rfl (fun K hK => ?_)
    go_simp
    go_at_call 34
    refine (HCA.out _ HB.out).mono ?_
    rintro en W20 ⟨rv, rfl, hown, hb⟩
    obtain ⟨aA, ac, hf⟩ := acc_form hown
    subst hf
    have hz0 := hz
    have hz := (hb.block B3 (heap_lt hz)).trans hz
    have HKEY := Lib.hid (own_below HKEY.out hb)
    have HACC := Lib.hid (accRow_mono hown HB.out.size)
    have HACC2 := Lib.hid (acc_ne hown (by have := HV0S.out; have := HBV.out.size; omega : w.heap.size < W19.heap.size))
    have HBV := Lib.hid (HBV.out.trans (hb.mono HBV.out.size))
    have HACCB := Lib.hid (acc_ne hown (heap_lt hz0))
    have HB := Lib.hid (HB.out.trans (hb.mono HB.out.size))
    have hHeld := HS.out _ HB.out
    clear hown hb hz0
    go_wp2_with fail
    refine hK.out _ _ (fun _ => hHeld) ?_
    clear hK K
    try simp only [Act.put, qa15, qb15, qc15, qd15, qe15, qf15]
    refine wpAnyN_step (i := 18) (by kernel_rfl) rfl (fun K hK => ?_)
    go_simp
    go_at_call 35
    refine (HCR.out _ HB.out).mono ?_
    rintro en W21 ⟨rv, rfl, hown, hb⟩
    obtain ⟨rA, rc, hf⟩ := own_form hown
    subst hf
    have hz0 := hz
    have hz := (hb.block B3 (heap_lt hz)).trans hz
    have HKEY := Lib.hid (own_below HKEY.out hb)
    have HACC := Lib.hid (HACC.out.below hb)
    have HROW := Lib.hid (hown.mono HB.out.size)
    have HROW2 := Lib.hid (row_ne hown (by have := HV0S.out; have := HBV.out.size; omega : w.heap.size < W20.heap.size))
    have HBV := Lib.hid (HBV.out.trans (hb.mono HBV.out.size))
    have HROWB := Lib.hid (row_ne hown (heap_lt hz0))
    have HB := Lib.hid (HB.out.trans (hb.mono HB.out.size))
    have hHeld := HS.out _ HB.out
    clear hown hb hz0
    go_wp2_with fail
    refine hK.out _ _ (fun _ => hHeld) ?_
    clear hK K
    try simp only [Act.put, qa15, qb15, qc15, qd15, qe15, qf15]
    refine wpAnyN_step (i := 23) (by kernel_rfl) rfl (fun K hK => ?_)
    go_simp
    go_at_call 36
    refine (HCL.out _ HB.out).mono ?_
    rintro en W22 ⟨rv, rfl, hown, hb⟩
    obtain ⟨lA, lc, hf⟩ := own_form hown
    subst hf
    have hz0 := hz
    have hz := (hb.block B3 (heap_lt hz)).trans hz
    have HKEY := Lib.hid (own_below HKEY.out hb)
    have HACC := Lib.hid (HACC.out.below hb)
    have HROW := Lib.hid (own_below HROW.out hb)
    have HALT := Lib.hid (hown.mono HB.out.size)
    have HALT2 := Lib.hid (row_ne hown (by have := HV0S.out; have := HBV.out.size; omega : w.heap.size < W21.heap.size))
    have HBV := Lib.hid (HBV.out.trans (hb.mono HBV.out.size))
    have HALTB := Lib.hid (row_ne hown (heap_lt hz0))
    have HB := Lib.hid (HB.out.trans (hb.mono HB.out.size))
    have hHeld := HS.out _ HB.out
    clear hown hb hz0
    go_wp2_with fail
    refine hK.out _ _ (fun _ => hHeld) ?_
    clear hK K
    try simp only [Act.put, qa15, qb15, qc15, qd15, qe15, qf15]
    refine tk15 (i := 28) (v := ?_) rfl ?y29 hHeld ?_
    case y29 => intro w0 hSw; (try dsimp only at hSw); go_simp; (try with_reducible rfl)
    try simp only [Act.put, qa15, qb15, qc15, qd15, qe15, qf15]
    have z0 : W22.cell? ⟨B3, 0, none⟩ = some (.int .i64 0) := by rw [cell_of_blk hz]; rfl
    have y0 := frozen_blk hz 0
    have z1 : W22.cell? ⟨B3, 1, none⟩ = some (.slice none 0 0) := by rw [cell_of_blk hz]; rfl
    have y1 := frozen_blk hz 1
    have z2 : W22.cell? ⟨B3, 2, none⟩ = some (.slice none 0 0) := by rw [cell_of_blk hz]; rfl
    have y2 := frozen_blk hz 2
    have z3 : W22.cell? ⟨B3, 3, none⟩ = some (.slice none 0 0) := by rw [cell_of_blk hz]; rfl
    have y3 := frozen_blk hz 3
    have z4 : W22.cell? ⟨B3, 4, none⟩ = some (.slice none 0 0) := by rw [cell_of_blk hz]; rfl
    have y4 := frozen_blk hz 4
    have z5 : W22.cell? ⟨B3, 5, none⟩ = some (.slice none 0 0) := by rw [cell_of_blk hz]; rfl
    have y5 := frozen_blk hz 5
    have z6 : W22.cell? ⟨B3, 6, none⟩ = some (.slice none 0 0) := by rw [cell_of_blk hz]; rfl
    have y6 := frozen_blk hz 6
    have z7 : W22.cell? ⟨B3, 7, none⟩ = some (.slice none 0 0) := by rw [cell_of_blk hz]; rfl
    have y7 := frozen_blk hz 7
    have z8 : W22.cell? ⟨B3, 8, none⟩ = some (.int .i64 0) := by rw [cell_of_blk hz]; rfl
    have y8 := frozen_blk hz 8
    refine wpAnyN_step (i := 30) (by kernel_rfl) rfl (fun K hK => ?_)
    go_simp
    refine hK.out _ _ (fun h => absurd h (by decide)) ?_
    clear hK K
    try simp only [Act.put, qa15, qb15, qc15, qd15, qe15, qf15]
    refine wpAnyN_done (by kernel_rfl) ?_ _
    have h0 := hz
    have h1 : (W22.setCell ⟨B3, 0, none⟩ (.int .i64 S.events)).heap[B3]? = some (.cells #[.int .i64 S.events, .slice none 0 0, .slice none 0 0, .slice none 0 0, .slice none 0 0, .slice none 0 0, .slice none 0 0, .slice none 0 0, .int .i64 0] 50 (0, 0)) := heap_setCell_same (i := 0) h0 (.int .i64 S.events)
    have h2 : ((W22.setCell ⟨B3, 0, none⟩ (.int .i64 S.events)).setCell ⟨B3, 1, none⟩ (.slice kA S.keys.length kc)).heap[B3]? = some (.cells #[.int .i64 S.events, .slice kA S.keys.length kc, .slice none 0 0, .slice none 0 0, .slice none 0 0, .slice none 0 0, .slice none 0 0, .slice none 0 0, .int .i64 0] 50 (0, 0)) := heap_setCell_same (i := 1) h1 (.slice kA S.keys.length kc)
    have h3 : (((W22.setCell ⟨B3, 0, none⟩ (.int .i64 S.events)).setCell ⟨B3, 1, none⟩ (.slice kA S.keys.length kc)).setCell ⟨B3, 2, none⟩ (.slice aA S.chart.length ac)).heap[B3]? = some (.cells #[.int .i64 S.events, .slice kA S.keys.length kc, .slice aA S.chart.length ac, .slice none 0 0, .slice none 0 0, .slice none 0 0, .slice none 0 0, .slice none 0 0, .int .i64 0] 50 (0, 0)) := heap_setCell_same (i := 2) h2 (.slice aA S.chart.length ac)
    have h4 : ((((W22.setCell ⟨B3, 0, none⟩ (.int .i64 S.events)).setCell ⟨B3, 1, none⟩ (.slice kA S.keys.length kc)).setCell ⟨B3, 2, none⟩ (.slice aA S.chart.length ac)).setCell ⟨B3, 3, none⟩ (.slice rA S.rows.length rc)).heap[B3]? = some (.cells #[.int .i64 S.events, .slice kA S.keys.length kc, .slice aA S.chart.length ac, .slice rA S.rows.length rc, .slice none 0 0, .slice none 0 0, .slice none 0 0, .slice none 0 0, .int .i64 0] 50 (0, 0)) := heap_setCell_same (i := 3) h3 (.slice rA S.rows.length rc)
    have h5 : (((((W22.setCell ⟨B3, 0, none⟩ (.int .i64 S.events)).setCell ⟨B3, 1, none⟩ (.slice kA S.keys.length kc)).setCell ⟨B3, 2, none⟩ (.slice aA S.chart.length ac)).setCell ⟨B3, 3, none⟩ (.slice rA S.rows.length rc)).setCell ⟨B3, 4, none⟩ (.slice none 0 0)).heap[B3]? = some (.cells #[.int .i64 S.events, .slice kA S.keys.length kc, .slice aA S.chart.length ac, .slice rA S.rows.length rc, .slice none 0 0, .slice none 0 0, .slice none 0 0, .slice none 0 0, .int .i64 0] 50 (0, 0)) := heap_setCell_same (i := 4) h4 (.slice none 0 0)
    have h6 : ((((((W22.setCell ⟨B3, 0, none⟩ (.int .i64 S.events)).setCell ⟨B3, 1, none⟩ (.slice kA S.keys.length kc)).setCell ⟨B3, 2, none⟩ (.slice aA S.chart.length ac)).setCell ⟨B3, 3, none⟩ (.slice rA S.rows.length rc)).setCell ⟨B3, 4, none⟩ (.slice none 0 0)).setCell ⟨B3, 5, none⟩ (.slice none 0 0)).heap[B3]? = some (.cells #[.int .i64 S.events, .slice kA S.keys.length kc, .slice aA S.chart.length ac, .slice rA S.rows.length rc, .slice none 0 0, .slice none 0 0, .slice none 0 0, .slice none 0 0, .int .i64 0] 50 (0, 0)) := heap_setCell_same (i := 5) h5 (.slice none 0 0)
    have h7 : (((((((W22.setCell ⟨B3, 0, none⟩ (.int .i64 S.events)).setCell ⟨B3, 1, none⟩ (.slice kA S.keys.length kc)).setCell ⟨B3, 2, none⟩ (.slice aA S.chart.length ac)).setCell ⟨B3, 3, none⟩ (.slice rA S.rows.length rc)).setCell ⟨B3, 4, none⟩ (.slice none 0 0)).setCell ⟨B3, 5, none⟩ (.slice none 0 0)).setCell ⟨B3, 6, none⟩ (.slice none 0 0)).heap[B3]? = some (.cells #[.int .i64 S.events, .slice kA S.keys.length kc, .slice aA S.chart.length ac, .slice rA S.rows.length rc, .slice none 0 0, .slice none 0 0, .slice none 0 0, .slice none 0 0, .int .i64 0] 50 (0, 0)) := heap_setCell_same (i := 6) h6 (.slice none 0 0)
    have h8 : ((((((((W22.setCell ⟨B3, 0, none⟩ (.int .i64 S.events)).setCell ⟨B3, 1, none⟩ (.slice kA S.keys.length kc)).setCell ⟨B3, 2, none⟩ (.slice aA S.chart.length ac)).setCell ⟨B3, 3, none⟩ (.slice rA S.rows.length rc)).setCell ⟨B3, 4, none⟩ (.slice none 0 0)).setCell ⟨B3, 5, none⟩ (.slice none 0 0)).setCell ⟨B3, 6, none⟩ (.slice none 0 0)).setCell ⟨B3, 7, none⟩ (.slice lA S.allots.length lc)).heap[B3]? = some (.cells #[.int .i64 S.events, .slice kA S.keys.length kc, .slice aA S.chart.length ac, .slice rA S.rows.length rc, .slice none 0 0, .slice none 0 0, .slice none 0 0, .slice lA S.allots.length lc, .int .i64 0] 50 (0, 0)) := heap_setCell_same (i := 7) h7 (.slice lA S.allots.length lc)
    have h9 : (((((((((W22.setCell ⟨B3, 0, none⟩ (.int .i64 S.events)).setCell ⟨B3, 1, none⟩ (.slice kA S.keys.length kc)).setCell ⟨B3, 2, none⟩ (.slice aA S.chart.length ac)).setCell ⟨B3, 3, none⟩ (.slice rA S.rows.length rc)).setCell ⟨B3, 4, none⟩ (.slice none 0 0)).setCell ⟨B3, 5, none⟩ (.slice none 0 0)).setCell ⟨B3, 6, none⟩ (.slice none 0 0)).setCell ⟨B3, 7, none⟩ (.slice lA S.allots.length lc)).setCell ⟨B3, 8, none⟩ (.int .i64 S.lock)).heap[B3]? = some (.cells #[.int .i64 S.events, .slice kA S.keys.length kc, .slice aA S.chart.length ac, .slice rA S.rows.length rc, .slice none 0 0, .slice none 0 0, .slice none 0 0, .slice lA S.allots.length lc, .int .i64 S.lock] 50 (0, 0)) := heap_setCell_same (i := 8) h8 (.int .i64 S.lock)
    have hkp : ∀ k, k ≠ B3 → (((((((((W22.setCell ⟨B3, 0, none⟩ (.int .i64 S.events)).setCell ⟨B3, 1, none⟩ (.slice kA S.keys.length kc)).setCell ⟨B3, 2, none⟩ (.slice aA S.chart.length ac)).setCell ⟨B3, 3, none⟩ (.slice rA S.rows.length rc)).setCell ⟨B3, 4, none⟩ (.slice none 0 0)).setCell ⟨B3, 5, none⟩ (.slice none 0 0)).setCell ⟨B3, 6, none⟩ (.slice none 0 0)).setCell ⟨B3, 7, none⟩ (.slice lA S.allots.length lc)).setCell ⟨B3, 8, none⟩ (.int .i64 S.lock)).heap[k]? = W22.heap[k]? := fun k hk => by
      repeat (refine (Below.heap_setCell _ _ _ _ hk).trans ?_)
      rfl
    have hb1 := (((((((((HB.out.setCell (p := ⟨B3, 0, none⟩) (by show w.heap.size ≤ B3; omega) (.int .i64 S.events)).setCell (p := ⟨B3, 1, none⟩) (by show w.heap.size ≤ B3; omega) (.slice kA S.keys.length kc)).setCell (p := ⟨B3, 2, none⟩) (by show w.heap.size ≤ B3; omega) (.slice aA S.chart.length ac)).setCell (p := ⟨B3, 3, none⟩) (by show w.heap.size ≤ B3; omega) (.slice rA S.rows.length rc)).setCell (p := ⟨B3, 4, none⟩) (by show w.heap.size ≤ B3; omega) (.slice none 0 0)).setCell (p := ⟨B3, 5, none⟩) (by show w.heap.size ≤ B3; omega) (.slice none 0 0)).setCell (p := ⟨B3, 6, none⟩) (by show w.heap.size ≤ B3; omega) (.slice none 0 0)).setCell (p := ⟨B3, 7, none⟩) (by show w.heap.size ≤ B3; omega) (.slice lA S.allots.length lc)).setCell (p := ⟨B3, 8, none⟩) (by show w.heap.size ≤ B3; omega) (.int .i64 S.lock))
    have hs1 : (((((((((W22.setCell ⟨B3, 0, none⟩ (.int .i64 S.events)).setCell ⟨B3, 1, none⟩ (.slice kA S.keys.length kc)).setCell ⟨B3, 2, none⟩ (.slice aA S.chart.length ac)).setCell ⟨B3, 3, none⟩ (.slice rA S.rows.length rc)).setCell ⟨B3, 4, none⟩ (.slice none 0 0)).setCell ⟨B3, 5, none⟩ (.slice none 0 0)).setCell ⟨B3, 6, none⟩ (.slice none 0 0)).setCell ⟨B3, 7, none⟩ (.slice lA S.allots.length lc)).setCell ⟨B3, 8, none⟩ (.int .i64 S.lock)).heap.size = W22.heap.size := by simp [World.setCell]
    generalize (((((((((W22.setCell ⟨B3, 0, none⟩ (.int .i64 S.events)).setCell ⟨B3, 1, none⟩ (.slice kA S.keys.length kc)).setCell ⟨B3, 2, none⟩ (.slice aA S.chart.length ac)).setCell ⟨B3, 3, none⟩ (.slice rA S.rows.length rc)).setCell ⟨B3, 4, none⟩ (.slice none 0 0)).setCell ⟨B3, 5, none⟩ (.slice none 0 0)).setCell ⟨B3, 6, none⟩ (.slice none 0 0)).setCell ⟨B3, 7, none⟩ (.slice lA S.allots.length lc)).setCell ⟨B3, 8, none⟩ (.int .i64 S.lock)) = W1 at h9 hkp hb1 hs1 ⊢
    have hB3l' := heap_lt hz
    exact HKT B3 kA kc aA ac rA rc lA lc W1 hB3l h9 hb1 ((hkp w.heap.size (by omega)).trans ((HBV.out.block w.heap.size (by have := HV0S.out; omega)).trans HZ0.out)) (ownsRow_keep HKEY.out fun k e => hkp k (HKEYB.out k e)) (acc_keep HACC.out (by omega) fun k e => hkp k (HACCB.out k e)) (ownsRow_keep HROW.out fun k e => hkp k (HROWB.out k e)) (ownsRow_keep HALT.out fun k e => hkp k (HALTB.out k e))
      (fun k e => ⟨HKEYB.out k e, HKEY2.out k e⟩) (fun k e => ⟨HACCB.out k e, HACC2.out k e⟩) (fun k e => ⟨HROWB.out k e, HROW2.out k e⟩) (fun k e => ⟨HALTB.out k e, HALT2.out k e⟩)

end
end Go.Proofs.YtgocoofcelggcaaGreatDoor
