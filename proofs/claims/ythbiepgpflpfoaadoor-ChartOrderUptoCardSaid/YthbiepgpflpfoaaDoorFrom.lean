/- From of a chart's accounts. -/
import Derived.Test.YthbiepgpflpfoaaDoorOpen
import Derived.Deep.RegionHeld3
import Derived.Laws.Cover1
import Derived.IntWalk
import Derived.BigQuiet
import Derived.Deep.QuietTactic
namespace Go.Proofs.YthbiepgpflpfoaaDoor
open Go.RowKit
set_option linter.unusedVariables false
set_option linter.unusedSimpArgs false

/-- A row of accounts lies at a block's start. -/
structure RowA (w : World) (b : Nat) (L : List Acct) : Prop where
  lt : b < w.heap.size
  c0 : ∀ j (hj : j < L.length), w.cell? ⟨b, j * 4, none⟩ = some (.string L[j].name)
  c1 : ∀ j (hj : j < L.length), w.cell? ⟨b, j * 4 + 1, none⟩ = some (.int .i64 L[j].typ)
  c2 : ∀ j (hj : j < L.length), w.cell? ⟨b, j * 4 + 2, none⟩ = some (.int .i64 L[j].opened)
  c3 : ∀ j (hj : j < L.length), w.cell? ⟨b, j * 4 + 3, none⟩ = some (.bool L[j].closed)

theorem RowA.below {w w' : World} {b : Nat} {L : List Acct} (h : RowA w b L) (hb : Below w.heap.size w w') : RowA w' b L where
  lt := Nat.lt_of_lt_of_le h.lt hb.size
  c0 := fun j hj => (hb.cell (p := ⟨b, j * 4, none⟩) h.lt).trans (h.c0 j hj)
  c1 := fun j hj => (hb.cell (p := ⟨b, j * 4 + 1, none⟩) h.lt).trans (h.c1 j hj)
  c2 := fun j hj => (hb.cell (p := ⟨b, j * 4 + 2, none⟩) h.lt).trans (h.c2 j hj)
  c3 := fun j hj => (hb.cell (p := ⟨b, j * 4 + 3, none⟩) h.lt).trans (h.c3 j hj)

/-- The list's next account fits behind those ahead of it. -/
theorem take_fits {L : List Acct} (hv : Valid L) (k : Nat) (hk : k < L.length) :
    CanAdd (L.take k) L[k] ∧ insA L[k] (L.take k) = L.take (k + 1) ∧
    ∀ u, parentF L[k].name = some u → ∃ p ∈ L.take k, findA (L.take k) u = some p ∧ p.name = u ∧ p.typ = L[k].typ ∧ p.opened ≤ L[k].opened ∧ (p.closed = true → L[k].closed = true) := by
  have hle := hv.le
  have hmem : L[k] ∈ L := List.getElem_mem hk
  have hr : Rising (L.take k) := List.Pairwise.sublist (List.take_sublist k L) hv.rising
  have hlt : ∀ b ∈ L.take k, cmpB b.name L[k].name < 0 := fun b hb => by
    obtain ⟨j, hj, rfl⟩ := List.getElem_of_mem hb
    have hj' : j < k := by simp at hj; omega
    rw [List.getElem_take]
    exact rising_get hv.rising hk hj'
  have hup : ∀ u, parentF L[k].name = some u → ∃ p ∈ L.take k, p.name = u ∧ p.typ = L[k].typ ∧ p.opened ≤ L[k].opened ∧ (p.closed = true → L[k].closed = true) := fun u hu => by
    obtain ⟨p, hp, rfl, h1, h2, h3⟩ := hv.up _ hmem u hu
    refine ⟨p, ?_, rfl, h1, h2, h3⟩
    obtain ⟨j, hj, rfl⟩ := List.getElem_of_mem hp
    have hb := parent_below hu
    rcases Nat.lt_trichotomy j k with h | h | h
    · rw [List.mem_take_iff_getElem]
      exact ⟨j, by omega, rfl⟩
    · subst h; rw [cmp_self] at hb; omega
    · have := rising_get hv.rising hj h
      have := cmp_trans hb this
      rw [cmp_self] at this; omega
  have hnone : findA (L.take k) L[k].name = none := by
    unfold findA
    rw [List.find?_eq_none]
    intro b hb
    simpa using cmp_ne (hlt b hb)
  refine ⟨{ rising := hr, none_ := hnone, room := by simp; omega, up := fun u hu => ?_, nokid := fun b hb e => ?_, self := fun e => by have := parent_size e; omega, size := by have := hv.size hmem; omega }, ?_, fun u hu => ?_⟩
  · obtain ⟨p, hp, e, _⟩ := hup u hu
    exact ⟨p, hp, e⟩
  · have h1 := parent_below e
    have h2 := cmp_trans h1 (hlt b hb)
    rw [cmp_self] at h2; omega
  · have hl : (L.take k).length = k := by simp; omega
    rw [insA_at L[k] (L.take k) k (by omega) (fun j hj _ => hlt _ (List.getElem_mem hj)) (fun j hj h => by omega)]
    rw [List.take_of_length_le (by omega), List.drop_eq_nil_of_le (by omega), List.take_succ_eq_append_getElem hk]
  · obtain ⟨p, hp, e, h1, h2, h3⟩ := hup u hu
    exact ⟨p, hp, by rw [← e]; exact find_mem hr hp, e, h1, h2, h3⟩

theorem less_of_cmp {a b : ByteArray} (h : cmpB a b < 0) : Op.bytesLess a.toList b.toList = true := by
  have key : ∀ x y : List UInt8, Lib.compareBytes x y < 0 → Op.bytesLess x y = true := by
    intro x
    induction x with
    | nil =>
      intro y h
      cases y with
      | nil => simp [Lib.compareBytes] at h
      | cons c r => rfl
    | cons c r ih =>
      intro y h
      cases y with
      | nil => simp [Lib.compareBytes] at h
      | cons d q =>
        unfold Lib.compareBytes at h
        unfold Op.bytesLess
        by_cases h1 : c < d
        · simp [h1]
        · by_cases h2 : d < c
          · simp [h1, h2] at h
          · have e : c = d := by
              apply UInt8.toNat_inj.1
              simp [UInt8.lt_iff_toNat_lt] at h1 h2
              omega
            subst e
            simp at h
            simp [ih q h]
  rw [Lib.toList_data, Lib.toList_data]
  exact key _ _ h

/-- Between two rounds of From. -/
structure FromInv (w : World) (L : List Acct) (cb : Nat) (i : Value) (wr : World) (k : Nat) : Prop where
  le : k ≤ L.length
  at_ : i = .int .i64 (k : Int)
  chart : ∃ F, ChartAt wr F cb (L.take k) ∧ ∀ x, F x → w.heap.size ≤ x
  bel : Below w.heap.size w wr

/-- What is read stays read behind a call that lays blocks alone. -/
theorem reads_on {w w' : World} (hb : Below w.heap.size w w') (ad : Addr) (v : Value) (h : w.cell? ad = some v) (hl : ad.block < w.heap.size) : w'.cell? ad = some v := (hb.cell hl).trans h
theorem from_keep {W6 w' w7 : World} {Ba b i : Nat} {v0 v1 v2 vp : Value} (hb7 : Below w'.heap.size w' w7) (hBa : Ba < W6.heap.size) (hb : b < W6.heap.size) (h0 : w'.cell? ⟨Ba, 0, none⟩ = some v0) (h1 : w'.cell? ⟨Ba, 1, none⟩ = some v1) (h2 : w'.cell? ⟨Ba, 2, none⟩ = some v2) (h3 : w'.cell? ⟨b, i, none⟩ = some vp) (hB : Below W6.heap.size W6 w') :
    w7.cell? ⟨Ba, 0, none⟩ = some v0 ∧ w7.cell? ⟨Ba, 1, none⟩ = some v1 ∧ w7.cell? ⟨Ba, 2, none⟩ = some v2 ∧ w7.cell? ⟨b, i, none⟩ = some vp ∧ Below W6.heap.size W6 w7 := by
  have hs := hB.size
  exact ⟨(hb7.cell (p := ⟨Ba, 0, none⟩) (by show Ba < _; omega)).trans h0, (hb7.cell (p := ⟨Ba, 1, none⟩) (by show Ba < _; omega)).trans h1, (hb7.cell (p := ⟨Ba, 2, none⟩) (by show Ba < _; omega)).trans h2, (hb7.cell (p := ⟨b, i, none⟩) (by show b < _; omega)).trans h3, hB.trans (hb7.mono hs)⟩

theorem from_keep0 {W6 w' w7 : World} {Ba : Nat} {v0 v1 v2 : Value} (hb7 : Below w'.heap.size w' w7) (hBa : Ba < W6.heap.size) (h0 : w'.cell? ⟨Ba, 0, none⟩ = some v0) (h1 : w'.cell? ⟨Ba, 1, none⟩ = some v1) (h2 : w'.cell? ⟨Ba, 2, none⟩ = some v2) (hB : Below W6.heap.size W6 w') :
    w7.cell? ⟨Ba, 0, none⟩ = some v0 ∧ w7.cell? ⟨Ba, 1, none⟩ = some v1 ∧ w7.cell? ⟨Ba, 2, none⟩ = some v2 ∧ Below W6.heap.size W6 w7 := by
  have hs := hB.size
  exact ⟨(hb7.cell (p := ⟨Ba, 0, none⟩) (by show Ba < _; omega)).trans h0, (hb7.cell (p := ⟨Ba, 1, none⟩) (by show Ba < _; omega)).trans h1, (hb7.cell (p := ⟨Ba, 2, none⟩) (by show Ba < _; omega)).trans h2, hB.trans (hb7.mono hs)⟩

theorem bel_drewN {B : Nat} {a w : World} (h : Below B a w) (n : Nat) : Below B a (w.drewN n) := ⟨h.os, h.tape, h.output, h.size, h.block⟩

set_option maxRecDepth 100000 in
set_option maxHeartbeats 4000000 in
theorem From_row (b c : Nat) (L : List Acct) (hv : Valid L) (w : World) (hrow : RowA w b L) :
    Calls Tryd.prog 17 #[.slice (some ⟨b, 0, none⟩) L.length c] w fun e w' => ∃ cb F, e = .returned (.tuple #[ptrV cb, .int .i64 0]) ∧ ChartAt w' F cb L ∧ (∀ x, F x → w.heap.size ≤ x) ∧ Below w.heap.size w w' := by
  have hle := hv.le
  have hnew := New_any w
  have HROW := Lib.hid hrow
  have HV := Lib.hid hv
  clear hrow hv
  go_enter Tryd.func17, Tryd.ntmps17
  go_wp2_with (go_at_call 9; refine hnew.mono ?_; rintro e w1 ⟨rfl, hch, hs1, hb1⟩; have HCH := Lib.hid hch; clear hch)
  obtain ⟨cb, hcb⟩ : ∃ cb, cb = w.heap.size + 1 := ⟨_, rfl⟩
  rw [← hcb]
  have HCB := Lib.hid hcb
  clear hcb
  unfold ptrV
  go_loopw [16] (fun i wr => ∃ k, FromInv w L cb i wr k) (fun i _ => L.length - (intOf i).toNat)
  case atStart => exact ⟨0, Nat.zero_le _, rfl, ⟨fun k => w.heap.size ≤ k ∧ k < w.heap.size + 2, by have := HCH.out; rw [← HCB.out] at this; simpa using this, fun x hx => hx.1⟩, hb1⟩
  case round =>
    obtain ⟨k, hk, rfl, ⟨F, hch, hF⟩, hbel⟩ := hrel
    by_cases hlt : k < L.length
    · have hrw := HROW.out.below hbel
      have q0 := hrw.c0 k hlt
      have q1 := hrw.c1 k hlt
      have q2 := hrw.c2 k hlt
      have q3 := hrw.c3 k hlt
      have htf := take_fits HV.out k hlt
      obtain ⟨a, ha⟩ : ∃ a, a = L[k] := ⟨_, rfl⟩
      rw [← ha] at q0 q1 q2 q3 htf
      have HTF := Lib.hid htf
      have HA := Lib.hid ha
      have HR := Lib.hid hrw
      have HCI := Lib.hid hch
      have hbl := hrw.lt
      clear ha hrw hch htf
      have hgd : goodB a.name.data.toList = true := HV.out.good a (HA.out ▸ List.getElem_mem hlt)
      have hdy := HV.out.day a (HA.out ▸ List.getElem_mem hlt)
      have hty := HV.out.typ a (HA.out ▸ List.getElem_mem hlt)
      have hsz := HV.out.size (HA.out ▸ List.getElem_mem hlt : a ∈ L)
      have hg := fun W => Good_any a.name W (by unfold maxLen; omega)
      rw [hgd] at hg
      have hdd := fun W => isDay_any a.opened W
      rw [show decide (1 ≤ a.opened ∧ a.opened ≤ 3652059) = true from decide_eq_true hdy] at hdd
      have hpr := fun W => Parent_any a.name W (by omega)
      clear hgd hdy hsz
      by_cases hk0 : k = 0
      · subst hk0
        simp only [Nat.zero_mul, Nat.zero_add] at q0 q1 q2 q3
        go_wp2
        have t1 : decide (a.typ < 1) = false := decide_eq_false (by omega)
        have t2 : decide (5 < a.typ) = false := decide_eq_false (by omega)
        obtain ⟨W6, hW6⟩ : ∃ W6, wr.alloc (.cells #[.string a.name, .int .i64 a.typ, .int .i64 a.opened, .bool a.closed] 35) = W6 := ⟨_, rfl⟩
        have hn6 : W6.heap[wr.heap.size]? = some (.cells #[.string a.name, .int .i64 a.typ, .int .i64 a.opened, .bool a.closed] 35 (0, 0)) := by rw [← hW6]; exact heap_alloc_new _ _
        have hB6 : Below wr.heap.size wr W6 := by rw [← hW6]; exact (Below.refl _ _).alloc (Nat.le_refl _) _
        have z0 : W6.cell? ⟨wr.heap.size, 0, none⟩ = some (.string a.name) := by rw [cell_of_blk hn6]; rfl
        have z1 : W6.cell? ⟨wr.heap.size, 1, none⟩ = some (.int .i64 a.typ) := by rw [cell_of_blk hn6]; rfl
        have z2 : W6.cell? ⟨wr.heap.size, 2, none⟩ = some (.int .i64 a.opened) := by rw [cell_of_blk hn6]; rfl
        have hs6 : wr.heap.size < W6.heap.size := heap_lt hn6
        have hb6 : b < W6.heap.size := by omega
        have HN := Lib.hid hn6
        have hBd : Below W6.heap.size W6 W6.drew := (Below.refl _ _).drew
        rw [hW6]
        clear hW6
        clear hn6 q0 q1 q2 q3
        refine wp_region_held_drew (S := fun w' => w'.cell? ⟨wr.heap.size, 0, none⟩ = some (.string a.name) ∧ w'.cell? ⟨wr.heap.size, 1, none⟩ = some (.int .i64 a.typ) ∧ w'.cell? ⟨wr.heap.size, 2, none⟩ = some (.int .i64 a.opened) ∧ Below W6.heap.size W6 w') (by kernel_rfl) ⟨z0, z1, z2, hBd⟩ (fun hHeld => ?_)
        refine wpAnyH_take (i := 0) (v := ?_) rfl (by kernel_rfl) (by kernel_rfl) (by kernel_rfl) (fun _ _ _ h => h) (Or.inl ⟨by kernel_rfl, ?y0⟩) (by assumption) ?_
        case y0 =>
          intro w0 hSw
          (try dsimp only at hSw)
          go_simp
          try with_reducible rfl
        try simp only [Act.put, List.setIfInBounds_toArray, List.set_cons_zero, List.set_cons_succ, List.getElem_toArray, List.getElem_cons_succ, List.getElem_cons_zero]
        refine wpAnyH_take (i := 1) (v := ?_) rfl (by kernel_rfl) (by kernel_rfl) (by kernel_rfl) (fun _ _ _ h => h) (Or.inl ⟨by kernel_rfl, ?y1⟩) (by assumption) ?_
        case y1 =>
          intro w0 hSw
          (try dsimp only at hSw)
          go_simp
          try with_reducible rfl
        try simp only [Act.put, List.setIfInBounds_toArray, List.set_cons_zero, List.set_cons_succ, List.getElem_toArray, List.getElem_cons_succ, List.getElem_cons_zero]
        refine wpAnyH_ready (rs := [2]) (by kernel_rfl) (by simp) (AllReadyH.cons rfl (fun K hK => ?_) AllReadyH.nil)
        go_simp
        go_at_call 27; refine (hg _).mono ?_; rintro e w7 ⟨rfl, hb7⟩; obtain ⟨g0, g1, g2, g4⟩ := from_keep0 hb7 hs6 z0 z1 z2 hBd
        go_wp2_with fail
        refine hK.out _ _ ⟨g0, g1, g2, g4⟩ (fun hHeld => ?_)
        clear hK K
        try simp only [Act.put, List.setIfInBounds_toArray, List.set_cons_zero, List.set_cons_succ, List.getElem_toArray, List.getElem_cons_succ, List.getElem_cons_zero]
        refine wpAnyH_take (i := 3) (v := ?_) rfl (by kernel_rfl) (by kernel_rfl) (by kernel_rfl) (fun _ _ _ h => h) (Or.inl ⟨by kernel_rfl, ?y3⟩) (by assumption) ?_
        case y3 =>
          intro w0 hSw
          (try dsimp only at hSw)
          go_simp
          try with_reducible rfl
        try simp only [Act.put, List.setIfInBounds_toArray, List.set_cons_zero, List.set_cons_succ, List.getElem_toArray, List.getElem_cons_succ, List.getElem_cons_zero]
        refine wpAnyH_take (i := 4) (v := ?_) rfl (by kernel_rfl) (by kernel_rfl) (by kernel_rfl) (fun _ _ _ h => h) (Or.inl ⟨by kernel_rfl, ?y4⟩) (by assumption) ?_
        case y4 =>
          intro w0 hSw
          (try dsimp only at hSw)
          go_simp
          try with_reducible rfl
        try simp only [Act.put, List.setIfInBounds_toArray, List.set_cons_zero, List.set_cons_succ, List.getElem_toArray, List.getElem_cons_succ, List.getElem_cons_zero]
        refine wpAnyH_take (i := 5) (v := ?_) rfl (by kernel_rfl) (by kernel_rfl) (by kernel_rfl) (fun _ _ _ h => h) (Or.inl ⟨by kernel_rfl, ?y5⟩) (by assumption) ?_
        case y5 =>
          intro w0 hSw
          (try dsimp only at hSw)
          go_simp
          try with_reducible rfl
        try simp only [Act.put, List.setIfInBounds_toArray, List.set_cons_zero, List.set_cons_succ, List.getElem_toArray, List.getElem_cons_succ, List.getElem_cons_zero]
        refine wpAnyH_take (i := 6) (v := ?_) rfl (by kernel_rfl) (by kernel_rfl) (by kernel_rfl) (fun _ _ _ h => h) (Or.inl ⟨by kernel_rfl, ?y6⟩) (by assumption) ?_
        case y6 =>
          intro w0 hSw
          (try dsimp only at hSw)
          go_simp
          try with_reducible rfl
        try simp only [Act.put, List.setIfInBounds_toArray, List.set_cons_zero, List.set_cons_succ, List.getElem_toArray, List.getElem_cons_succ, List.getElem_cons_zero]
        refine wpAnyH_take (i := 7) (v := ?_) rfl (by kernel_rfl) (by kernel_rfl) (by kernel_rfl) (fun _ _ _ h => h) (Or.inl ⟨by kernel_rfl, ?y7⟩) (by assumption) ?_
        case y7 =>
          intro w0 hSw
          (try dsimp only at hSw)
          go_simp
          try with_reducible rfl
        try simp only [Act.put, List.setIfInBounds_toArray, List.set_cons_zero, List.set_cons_succ, List.getElem_toArray, List.getElem_cons_succ, List.getElem_cons_zero]
        refine wpAnyH_take (i := 8) (v := undef) rfl (by kernel_rfl) (by kernel_rfl) (by kernel_rfl) (fun _ _ _ h => h) (Or.inr ⟨by kernel_rfl, rfl⟩) (by assumption) ?_
        try simp only [Act.put, List.setIfInBounds_toArray, List.set_cons_zero, List.set_cons_succ, List.getElem_toArray, List.getElem_cons_succ, List.getElem_cons_zero]
        refine wpAnyH_take (i := 9) (v := undef) rfl (by kernel_rfl) (by kernel_rfl) (by kernel_rfl) (fun _ _ _ h => h) (Or.inr ⟨by kernel_rfl, rfl⟩) (by assumption) ?_
        try simp only [Act.put, List.setIfInBounds_toArray, List.set_cons_zero, List.set_cons_succ, List.getElem_toArray, List.getElem_cons_succ, List.getElem_cons_zero]
        refine wpAnyH_take (i := 10) (v := undef) rfl (by kernel_rfl) (by kernel_rfl) (by kernel_rfl) (fun _ _ _ h => h) (Or.inr ⟨by kernel_rfl, rfl⟩) (by assumption) ?_
        try simp only [Act.put, List.setIfInBounds_toArray, List.set_cons_zero, List.set_cons_succ, List.getElem_toArray, List.getElem_cons_succ, List.getElem_cons_zero]
        refine wpAnyH_take (i := 11) (v := undef) rfl (by kernel_rfl) (by kernel_rfl) (by kernel_rfl) (fun _ _ _ h => h) (Or.inr ⟨by kernel_rfl, rfl⟩) (by assumption) ?_
        try simp only [Act.put, List.setIfInBounds_toArray, List.set_cons_zero, List.set_cons_succ, List.getElem_toArray, List.getElem_cons_succ, List.getElem_cons_zero]
        refine wpAnyH_take (i := 12) (v := undef) rfl (by kernel_rfl) (by kernel_rfl) (by kernel_rfl) (fun _ _ _ h => h) (Or.inr ⟨by kernel_rfl, rfl⟩) (by assumption) ?_
        try simp only [Act.put, List.setIfInBounds_toArray, List.set_cons_zero, List.set_cons_succ, List.getElem_toArray, List.getElem_cons_succ, List.getElem_cons_zero]
        refine wpAnyH_take (i := 13) (v := undef) rfl (by kernel_rfl) (by kernel_rfl) (by kernel_rfl) (fun _ _ _ h => h) (Or.inr ⟨by kernel_rfl, rfl⟩) (by assumption) ?_
        try simp only [Act.put, List.setIfInBounds_toArray, List.set_cons_zero, List.set_cons_succ, List.getElem_toArray, List.getElem_cons_succ, List.getElem_cons_zero]
        refine wpAnyH_take (i := 14) (v := undef) rfl (by kernel_rfl) (by kernel_rfl) (by kernel_rfl) (fun _ _ _ h => h) (Or.inr ⟨by kernel_rfl, rfl⟩) (by assumption) ?_
        try simp only [Act.put, List.setIfInBounds_toArray, List.set_cons_zero, List.set_cons_succ, List.getElem_toArray, List.getElem_cons_succ, List.getElem_cons_zero]
        refine wpAnyH_take (i := 15) (v := undef) rfl (by kernel_rfl) (by kernel_rfl) (by kernel_rfl) (fun _ _ _ h => h) (Or.inr ⟨by kernel_rfl, rfl⟩) (by assumption) ?_
        try simp only [Act.put, List.setIfInBounds_toArray, List.set_cons_zero, List.set_cons_succ, List.getElem_toArray, List.getElem_cons_succ, List.getElem_cons_zero]
        refine wpAnyH_take (i := 16) (v := undef) rfl (by kernel_rfl) (by kernel_rfl) (by kernel_rfl) (fun _ _ _ h => h) (Or.inr ⟨by kernel_rfl, rfl⟩) (by assumption) ?_
        try simp only [Act.put, List.setIfInBounds_toArray, List.set_cons_zero, List.set_cons_succ, List.getElem_toArray, List.getElem_cons_succ, List.getElem_cons_zero]
        refine wpAnyH_take (i := 17) (v := ?_) rfl (by kernel_rfl) (by kernel_rfl) (by kernel_rfl) (fun _ _ _ h => h) (Or.inl ⟨by kernel_rfl, ?y17⟩) (by assumption) ?_
        case y17 =>
          intro w0 hSw
          (try dsimp only at hSw)
          go_simp
          try with_reducible rfl
        try simp only [Act.put, List.setIfInBounds_toArray, List.set_cons_zero, List.set_cons_succ, List.getElem_toArray, List.getElem_cons_succ, List.getElem_cons_zero]
        refine wpAnyH_take (i := 18) (v := ?_) rfl (by kernel_rfl) (by kernel_rfl) (by kernel_rfl) (fun _ _ _ h => h) (Or.inl ⟨by kernel_rfl, ?y18⟩) (by assumption) ?_
        case y18 =>
          intro w0 hSw
          (try dsimp only at hSw)
          go_simp
          try with_reducible rfl
        try simp only [Act.put, List.setIfInBounds_toArray, List.set_cons_zero, List.set_cons_succ, List.getElem_toArray, List.getElem_cons_succ, List.getElem_cons_zero]
        refine wpAnyH_take (i := 19) (v := ?_) rfl (by kernel_rfl) (by kernel_rfl) (by kernel_rfl) (fun _ _ _ h => h) (Or.inl ⟨by kernel_rfl, ?y19⟩) (by assumption) ?_
        case y19 =>
          intro w0 hSw
          (try dsimp only at hSw)
          go_simp
          try with_reducible rfl
        try simp only [Act.put, List.setIfInBounds_toArray, List.set_cons_zero, List.set_cons_succ, List.getElem_toArray, List.getElem_cons_succ, List.getElem_cons_zero]
        refine wpAnyH_take (i := 20) (v := ?_) rfl (by kernel_rfl) (by kernel_rfl) (by kernel_rfl) (fun _ _ _ h => h) (Or.inl ⟨by kernel_rfl, ?y20⟩) (by assumption) ?_
        case y20 =>
          intro w0 hSw
          (try dsimp only at hSw)
          go_simp
          try with_reducible rfl
        try simp only [Act.put, List.setIfInBounds_toArray, List.set_cons_zero, List.set_cons_succ, List.getElem_toArray, List.getElem_cons_succ, List.getElem_cons_zero]
        refine wpAnyH_take (i := 21) (v := ?_) rfl (by kernel_rfl) (by kernel_rfl) (by kernel_rfl) (fun _ _ _ h => h) (Or.inl ⟨by kernel_rfl, ?y21⟩) (by assumption) ?_
        case y21 =>
          intro w0 hSw
          (try dsimp only at hSw)
          go_simp
          try with_reducible rfl
        try simp only [Act.put, List.setIfInBounds_toArray, List.set_cons_zero, List.set_cons_succ, List.getElem_toArray, List.getElem_cons_succ, List.getElem_cons_zero]
        refine wpAnyH_ready (rs := [22]) (by kernel_rfl) (by simp) (AllReadyH.cons rfl (fun K hK => ?_) AllReadyH.nil)
        go_simp
        go_at_call 28; refine (hdd _).mono ?_; rintro e w8 ⟨rfl, hw8⟩; have hw9 := hw8.symm; subst hw9
        go_wp2_with fail
        refine hK.out _ _ ⟨g0, g1, g2, g4⟩ (fun hHeld => ?_)
        clear hK K
        try simp only [Act.put, List.setIfInBounds_toArray, List.set_cons_zero, List.set_cons_succ, List.getElem_toArray, List.getElem_cons_succ, List.getElem_cons_zero]
        refine wpAnyH_take (i := 23) (v := ?_) rfl (by kernel_rfl) (by kernel_rfl) (by kernel_rfl) (fun _ _ _ h => h) (Or.inl ⟨by kernel_rfl, ?y23⟩) (by assumption) ?_
        case y23 =>
          intro w0 hSw
          (try dsimp only at hSw)
          go_simp
          try with_reducible rfl
        try simp only [Act.put, List.setIfInBounds_toArray, List.set_cons_zero, List.set_cons_succ, List.getElem_toArray, List.getElem_cons_succ, List.getElem_cons_zero]
        refine wpAnyH_take (i := 24) (v := ?_) rfl (by kernel_rfl) (by kernel_rfl) (by kernel_rfl) (fun _ _ _ h => h) (Or.inl ⟨by kernel_rfl, ?y24⟩) (by assumption) ?_
        case y24 =>
          intro w0 hSw
          (try dsimp only at hSw)
          go_simp
          try with_reducible rfl
        try simp only [Act.put, List.setIfInBounds_toArray, List.set_cons_zero, List.set_cons_succ, List.getElem_toArray, List.getElem_cons_succ, List.getElem_cons_zero]
        refine wpAnyH_take (i := 25) (v := ?_) rfl (by kernel_rfl) (by kernel_rfl) (by kernel_rfl) (fun _ _ _ h => h) (Or.inl ⟨by kernel_rfl, ?y25⟩) (by assumption) ?_
        case y25 =>
          intro w0 hSw
          (try dsimp only at hSw)
          go_simp
          try with_reducible rfl
        try simp only [Act.put, List.setIfInBounds_toArray, List.set_cons_zero, List.set_cons_succ, List.getElem_toArray, List.getElem_cons_succ, List.getElem_cons_zero]
        refine wpAnyH_take (i := 26) (v := ?_) rfl (by kernel_rfl) (by kernel_rfl) (by kernel_rfl) (fun _ _ _ h => h) (Or.inl ⟨by kernel_rfl, ?y26⟩) (by assumption) ?_
        case y26 =>
          intro w0 hSw
          (try dsimp only at hSw)
          go_simp
          try with_reducible rfl
        try simp only [Act.put, List.setIfInBounds_toArray, List.set_cons_zero, List.set_cons_succ, List.getElem_toArray, List.getElem_cons_succ, List.getElem_cons_zero]
        refine wpAnyH_take (i := 27) (v := ?_) rfl (by kernel_rfl) (by kernel_rfl) (by kernel_rfl) (fun _ _ _ h => h) (Or.inl ⟨by kernel_rfl, ?y27⟩) (by assumption) ?_
        case y27 =>
          intro w0 hSw
          (try dsimp only at hSw)
          go_simp
          try with_reducible rfl
        try simp only [Act.put, List.setIfInBounds_toArray, List.set_cons_zero, List.set_cons_succ, List.getElem_toArray, List.getElem_cons_succ, List.getElem_cons_zero]
        refine wpAnyH_take (i := 28) (v := ?_) rfl (by kernel_rfl) (by kernel_rfl) (by kernel_rfl) (fun _ _ _ h => h) (Or.inl ⟨by kernel_rfl, ?y28⟩) (by assumption) ?_
        case y28 =>
          intro w0 hSw
          (try dsimp only at hSw)
          go_simp
          try with_reducible rfl
        try simp only [Act.put, List.setIfInBounds_toArray, List.set_cons_zero, List.set_cons_succ, List.getElem_toArray, List.getElem_cons_succ, List.getElem_cons_zero]
        refine wpAnyH_take (i := 29) (v := ?_) rfl (by kernel_rfl) (by kernel_rfl) (by kernel_rfl) (fun _ _ _ h => h) (Or.inl ⟨by kernel_rfl, ?y29⟩) (by assumption) ?_
        case y29 =>
          intro w0 hSw
          (try dsimp only at hSw)
          go_simp
          try with_reducible rfl
        try simp only [Act.put, List.setIfInBounds_toArray, List.set_cons_zero, List.set_cons_succ, List.getElem_toArray, List.getElem_cons_succ, List.getElem_cons_zero]
        refine wpAnyH_take (i := 30) (v := ?_) rfl (by kernel_rfl) (by kernel_rfl) (by kernel_rfl) (fun _ _ _ h => h) (Or.inl ⟨by kernel_rfl, ?y30⟩) (by assumption) ?_
        case y30 =>
          intro w0 hSw
          (try dsimp only at hSw)
          go_simp
          try with_reducible rfl
        try simp only [Act.put, List.setIfInBounds_toArray, List.set_cons_zero, List.set_cons_succ, List.getElem_toArray, List.getElem_cons_succ, List.getElem_cons_zero]
        refine wpAnyH_take (i := 31) (v := ?_) rfl (by kernel_rfl) (by kernel_rfl) (by kernel_rfl) (fun _ _ _ h => h) (Or.inl ⟨by kernel_rfl, ?y31⟩) (by assumption) ?_
        case y31 =>
          intro w0 hSw
          (try dsimp only at hSw)
          go_simp
          try with_reducible rfl
        try simp only [Act.put, List.setIfInBounds_toArray, List.set_cons_zero, List.set_cons_succ, List.getElem_toArray, List.getElem_cons_succ, List.getElem_cons_zero]
        refine wpAnyH_take (i := 32) (v := ?_) rfl (by kernel_rfl) (by kernel_rfl) (by kernel_rfl) (fun _ _ _ h => h) (Or.inl ⟨by kernel_rfl, ?y32⟩) (by assumption) ?_
        case y32 =>
          intro w0 hSw
          (try dsimp only at hSw)
          go_simp
          try with_reducible rfl
        try simp only [Act.put, List.setIfInBounds_toArray, List.set_cons_zero, List.set_cons_succ, List.getElem_toArray, List.getElem_cons_succ, List.getElem_cons_zero]
        refine wpAnyH_take (i := 33) (v := ?_) rfl (by kernel_rfl) (by kernel_rfl) (by kernel_rfl) (fun _ _ _ h => h) (Or.inl ⟨by kernel_rfl, ?y33⟩) (by assumption) ?_
        case y33 =>
          intro w0 hSw
          (try dsimp only at hSw)
          go_simp
          try with_reducible rfl
        try simp only [Act.put, List.setIfInBounds_toArray, List.set_cons_zero, List.set_cons_succ, List.getElem_toArray, List.getElem_cons_succ, List.getElem_cons_zero]
        refine wpAnyH_take (i := 34) (v := ?_) rfl (by kernel_rfl) (by kernel_rfl) (by kernel_rfl) (fun _ _ _ h => h) (Or.inl ⟨by kernel_rfl, ?y34⟩) (by assumption) ?_
        case y34 =>
          intro w0 hSw
          (try dsimp only at hSw)
          go_simp
          try with_reducible rfl
        try simp only [Act.put, List.setIfInBounds_toArray, List.set_cons_zero, List.set_cons_succ, List.getElem_toArray, List.getElem_cons_succ, List.getElem_cons_zero]
        refine wpAnyH_done (by kernel_rfl) ?_ _
        clear g0 g1 g2 hb7 hBd hg hdd
        have HB7 := Lib.hid (hB6.trans (g4.mono (Nat.le_of_lt hs6)))
        have h7s := g4.size
        have hbox : ∀ W : World, Below w7.heap.size w7 W → W.heap[wr.heap.size]? = some (.cells #[.string a.name, .int .i64 a.typ, .int .i64 a.opened, .bool a.closed] 35 (0, 0)) := fun W hb => (hb.block _ (by omega)).trans ((g4.block _ hs6).trans HN.out)
        have HBOX := Lib.hid hbox
        clear hbox
        have HG4 := Lib.hid g4
        clear g4
        have y0 : w7.cell? ⟨wr.heap.size, 0, none⟩ = some (.string a.name) := by rw [cell_of_blk (HBOX.out w7 (Below.refl _ _))]; rfl
        cases hpar : parentF a.name with
        | none =>
          rw [hpar] at hpr
          go_wp2_with (first
            | (go_at_call 10; refine (hpr _).mono ?_; rintro e w8 ⟨rfl, hb8⟩; have HB8 := Lib.hid hb8; clear hb8; have hn8 := HBOX.out w8 HB8.out; have x0 : w8.cell? ⟨wr.heap.size, 0, none⟩ = some (.string a.name) := (by rw [cell_of_blk hn8]; rfl); have x1 : w8.cell? ⟨wr.heap.size, 1, none⟩ = some (.int .i64 a.typ) := (by rw [cell_of_blk hn8]; rfl); have x2 : w8.cell? ⟨wr.heap.size, 2, none⟩ = some (.int .i64 a.opened) := (by rw [cell_of_blk hn8]; rfl); have x3 : w8.cell? ⟨wr.heap.size, 3, none⟩ = some (.bool a.closed) := (by rw [cell_of_blk hn8]; rfl); clear hn8; have hB8 := Lib.hid (HB7.out.trans (HB8.out.mono HB7.out.size)); have hadd := add_any (HCI.out.below hB8.out) HTF.out.1; unfold accV at hadd)
            | (go_at_call 29; refine hadd.mono ?_; rintro e w9 ⟨rfl, F', hch9, hC9, hF9⟩; have HC9 := Lib.hid (And.intro hch9 (And.intro hC9 hF9)); clear hch9 hC9 hF9))
          go_roundw
          case rel =>
            obtain ⟨hch9, hC9, hF9⟩ := HC9.out
            rw [HTF.out.2.1] at hch9
            exact ⟨1, by omega, by go_num, ⟨F', hch9, fun x hx => by rcases hF9 x hx with h | h; exact hF x h; have := hB8.out.size; have := hbel.size; omega⟩, hbel.trans (((Ch.of_below hB8.out).trans' hC9).toBelow hbel.size hF)⟩
          case measure => simp [intOf]; omega
        | some u =>
          obtain ⟨q, hqL, _⟩ := HTF.out.2.2 u hpar
          exact absurd hqL (by simp)
      · go_wp2
        obtain ⟨p, hp⟩ : ∃ p, p = L[k - 1] := ⟨_, rfl⟩
        have r0 := HR.out.c0 (k - 1) (by omega)
        have hord : Op.bytesLess p.name.toList a.name.toList = true := less_of_cmp (by rw [hp, HA.out]; exact rising_get HV.out.rising hlt (by omega))
        rw [← hp] at r0
        have HP := Lib.hid hp
        clear hp
        have s1 : IntKind.i64.wrap ((k : Int) - 1) = (k : Int) - 1 := IntWalk.i64_in _ (by omega)
        have s2 : ((k : Int) - 1).toNat = k - 1 := by omega
        have s3 : (0 : Int) ≤ (k : Int) - 1 := by omega
        have s4 : (k : Int) - 1 < L.length := by omega
        have s5 : decide ((0 : Int) < (k : Int)) = true := decide_eq_true (by omega)
        have s6 : 0 < k := by omega
        have s9 : (1 : Int) ≤ (k : Int) := by omega
        have s8 : k - 1 < L.length := by omega
        have s7 : decide (0 < k) = true := decide_eq_true s6
        have t1 : decide (a.typ < 1) = false := decide_eq_false (by omega)
        have t2 : decide (5 < a.typ) = false := decide_eq_false (by omega)
        obtain ⟨W6, hW6⟩ : ∃ W6, wr.alloc (.cells #[.string a.name, .int .i64 a.typ, .int .i64 a.opened, .bool a.closed] 35) = W6 := ⟨_, rfl⟩
        have hn6 : W6.heap[wr.heap.size]? = some (.cells #[.string a.name, .int .i64 a.typ, .int .i64 a.opened, .bool a.closed] 35 (0, 0)) := by rw [← hW6]; exact heap_alloc_new _ _
        have hB6 : Below wr.heap.size wr W6 := by rw [← hW6]; exact (Below.refl _ _).alloc (Nat.le_refl _) _
        have hr6 : W6.cell? ⟨b, (k - 1) * 4, none⟩ = some (.string p.name) := (hB6.cell (p := ⟨b, (k - 1) * 4, none⟩) hbl).trans r0
        have z0 : W6.cell? ⟨wr.heap.size, 0, none⟩ = some (.string a.name) := by rw [cell_of_blk hn6]; rfl
        have z1 : W6.cell? ⟨wr.heap.size, 1, none⟩ = some (.int .i64 a.typ) := by rw [cell_of_blk hn6]; rfl
        have z2 : W6.cell? ⟨wr.heap.size, 2, none⟩ = some (.int .i64 a.opened) := by rw [cell_of_blk hn6]; rfl
        have hs6 : wr.heap.size < W6.heap.size := heap_lt hn6
        have hb6 : b < W6.heap.size := by omega
        have HN := Lib.hid hn6
        have hBd : Below W6.heap.size W6 W6.drew := (Below.refl _ _).drew
        rw [hW6]
        clear hW6
        clear hn6 r0 q0 q1 q2 q3
        go_region_held3 (fun w' => w'.cell? ⟨wr.heap.size, 0, none⟩ = some (.string a.name) ∧ w'.cell? ⟨wr.heap.size, 1, none⟩ = some (.int .i64 a.typ) ∧ w'.cell? ⟨wr.heap.size, 2, none⟩ = some (.int .i64 a.opened) ∧ w'.cell? ⟨b, (k - 1) * 4, none⟩ = some (.string p.name) ∧ Below W6.heap.size W6 w')
          (go_keep)
          (first
            | (go_at_call 27; refine (hg _).mono ?_; rintro e w7 ⟨rfl, hb7⟩; obtain ⟨g0, g1, g2, g3, g4⟩ := from_keep hb7 hs6 hb6 (by assumption) (by assumption) (by assumption) (by assumption) (by assumption))
            | (go_at_call 28; refine (hdd _).mono ?_; rintro e w7 ⟨rfl, rfl⟩))
        clear s1 s2 s3 s4 s5 s7 s9 g0 g1 g2 g3 hb7 hBd hg hdd
        have HB7 := Lib.hid (hB6.trans (g4.mono (Nat.le_of_lt hs6)))
        have h7s := g4.size
        have hbox : ∀ W : World, Below w7.heap.size w7 W → W.heap[wr.heap.size]? = some (.cells #[.string a.name, .int .i64 a.typ, .int .i64 a.opened, .bool a.closed] 35 (0, 0)) := fun W hb => (hb.block _ (by omega)).trans ((g4.block _ hs6).trans HN.out)
        have HBOX := Lib.hid hbox
        clear hbox
        have HG4 := Lib.hid g4
        clear g4
        have y0 : w7.cell? ⟨wr.heap.size, 0, none⟩ = some (.string a.name) := by rw [cell_of_blk (HBOX.out w7 (Below.refl _ _))]; rfl
        cases hpar : parentF a.name with
        | none =>
          rw [hpar] at hpr
          go_wp2_with (first
            | (go_at_call 10; refine (hpr _).mono ?_; rintro e w8 ⟨rfl, hb8⟩; have HB8 := Lib.hid hb8; clear hb8; have hn8 := HBOX.out w8 HB8.out; have x0 : w8.cell? ⟨wr.heap.size, 0, none⟩ = some (.string a.name) := (by rw [cell_of_blk hn8]; rfl); have x1 : w8.cell? ⟨wr.heap.size, 1, none⟩ = some (.int .i64 a.typ) := (by rw [cell_of_blk hn8]; rfl); have x2 : w8.cell? ⟨wr.heap.size, 2, none⟩ = some (.int .i64 a.opened) := (by rw [cell_of_blk hn8]; rfl); have x3 : w8.cell? ⟨wr.heap.size, 3, none⟩ = some (.bool a.closed) := (by rw [cell_of_blk hn8]; rfl); clear hn8; have hB8 := Lib.hid (HB7.out.trans (HB8.out.mono HB7.out.size)); have hadd := add_any (HCI.out.below hB8.out) HTF.out.1; unfold accV at hadd)
            | (go_at_call 29; refine hadd.mono ?_; rintro e w9 ⟨rfl, F', hch9, hC9, hF9⟩; have HC9 := Lib.hid (And.intro hch9 (And.intro hC9 hF9)); clear hch9 hC9 hF9))
          go_roundw
          case rel =>
            obtain ⟨hch9, hC9, hF9⟩ := HC9.out
            rw [HTF.out.2.1] at hch9
            exact ⟨k + 1, by omega, by go_num, ⟨F', hch9, fun x hx => by rcases hF9 x hx with h | h; exact hF x h; have := hB8.out.size; have := hbel.size; omega⟩, hbel.trans (((Ch.of_below hB8.out).trans' hC9).toBelow hbel.size hF)⟩
          case measure => simp [intOf]; omega
        | some u =>
          obtain ⟨q, hqL, hfq, rfl, hq1, hq2, hq3⟩ := HTF.out.2.2 u hpar
          rw [hpar] at hpr
          obtain ⟨mb, rv, nb, kv, ps, hcr⟩ := HCI.out
          have HCR := Lib.hid hcr
          clear hcr
          have d1 : decide (a.opened < q.opened) = false := decide_eq_false (by omega)
          have d2 : ¬ a.opened < q.opened := by omega
          cases hqc : q.closed with
          | false =>
            go_wp2_with (first
              | (go_at_call 10; refine (hpr _).mono ?_; rintro e w8 ⟨rfl, hb8⟩; have HB8 := Lib.hid hb8; clear hb8; have hn8 := HBOX.out w8 HB8.out; have x0 : w8.cell? ⟨wr.heap.size, 0, none⟩ = some (.string a.name) := (by rw [cell_of_blk hn8]; rfl); have x1 : w8.cell? ⟨wr.heap.size, 1, none⟩ = some (.int .i64 a.typ) := (by rw [cell_of_blk hn8]; rfl); have x2 : w8.cell? ⟨wr.heap.size, 2, none⟩ = some (.int .i64 a.opened) := (by rw [cell_of_blk hn8]; rfl); have x3 : w8.cell? ⟨wr.heap.size, 3, none⟩ = some (.bool a.closed) := (by rw [cell_of_blk hn8]; rfl); clear hn8; have hB8 := Lib.hid (HB7.out.trans (HB8.out.mono HB7.out.size)); have hcr8 := HCR.out.keep (fun k _ hk => hB8.out.block k hk); have e0 : w8.cell? ⟨cb, 0, none⟩ = some (.map (some mb)) := (by rw [cell_of_blk hcr8.hC]; rfl); have hlk := hcr8.lookup q.name; rw [hfq] at hlk; unfold ptrV at hlk; have e1 : w8.cell? ⟨nb q.name, 1, none⟩ = some (.int .i64 a.typ) := (by rw [cell_of_blk (hcr8.hN q hqL), ← hq1]; rfl); have e2 : w8.cell? ⟨nb q.name, 2, none⟩ = some (.int .i64 q.opened) := (by rw [cell_of_blk (hcr8.hN q hqL)]; rfl); have e3 : w8.cell? ⟨nb q.name, 3, none⟩ = some (.bool false) := (by rw [cell_of_blk (hcr8.hN q hqL), ← hqc]; rfl); have hadd := fun W hb => add_any (ChartAt.below ⟨mb, rv, nb, kv, ps, hcr8⟩ hb : ChartAt W F cb (L.take k)) HTF.out.1; unfold accV at hadd; have HADD := Lib.hid hadd; clear hadd hcr8))
            go_quiet (fail)
            go_wp2_with (go_at_call 29; refine (HADD.out _ (bel_drewN (Below.refl _ _) _)).mono ?_; rintro e w9 ⟨rfl, F', hch9, hC9, hF9⟩; have HC9 := Lib.hid (And.intro hch9 (And.intro hC9 hF9)); clear hch9 hC9 hF9)
            go_roundw
            case rel =>
              obtain ⟨hch9, hC9, hF9⟩ := HC9.out
              rw [HTF.out.2.1] at hch9
              refine ⟨k + 1, by omega, by go_num, ⟨F', hch9, fun x hx => by rcases hF9 x hx with h | h; exact hF x h; have := hB8.out.size; have := hbel.size; have h1 : w8.heap.size ≤ x := h.1; omega⟩, hbel.trans ((((Ch.of_below hB8.out).drewN _).trans' hC9).toBelow hbel.size hF)⟩
            case measure => simp [intOf]; omega
          | true =>
            have hac : a.closed = true := hq3 hqc
            go_wp2_with (first
              | (go_at_call 10; refine (hpr _).mono ?_; rintro e w8 ⟨rfl, hb8⟩; have HB8 := Lib.hid hb8; clear hb8; have hn8 := HBOX.out w8 HB8.out; have x0 : w8.cell? ⟨wr.heap.size, 0, none⟩ = some (.string a.name) := (by rw [cell_of_blk hn8]; rfl); have x1 : w8.cell? ⟨wr.heap.size, 1, none⟩ = some (.int .i64 a.typ) := (by rw [cell_of_blk hn8]; rfl); have x2 : w8.cell? ⟨wr.heap.size, 2, none⟩ = some (.int .i64 a.opened) := (by rw [cell_of_blk hn8]; rfl); have x3 : w8.cell? ⟨wr.heap.size, 3, none⟩ = some (.bool true) := (by rw [cell_of_blk hn8, ← hac]; rfl); clear hn8; have hB8 := Lib.hid (HB7.out.trans (HB8.out.mono HB7.out.size)); have hcr8 := HCR.out.keep (fun k _ hk => hB8.out.block k hk); have e0 : w8.cell? ⟨cb, 0, none⟩ = some (.map (some mb)) := (by rw [cell_of_blk hcr8.hC]; rfl); have hlk := hcr8.lookup q.name; rw [hfq] at hlk; unfold ptrV at hlk; have e1 : w8.cell? ⟨nb q.name, 1, none⟩ = some (.int .i64 a.typ) := (by rw [cell_of_blk (hcr8.hN q hqL), ← hq1]; rfl); have e2 : w8.cell? ⟨nb q.name, 2, none⟩ = some (.int .i64 q.opened) := (by rw [cell_of_blk (hcr8.hN q hqL)]; rfl); have e3 : w8.cell? ⟨nb q.name, 3, none⟩ = some (.bool true) := (by rw [cell_of_blk (hcr8.hN q hqL), ← hqc]; rfl); have hadd := fun W hb => add_any (ChartAt.below ⟨mb, rv, nb, kv, ps, hcr8⟩ hb : ChartAt W F cb (L.take k)) HTF.out.1; unfold accV at hadd; rw [hac] at hadd; have HADD := Lib.hid hadd; clear hadd hcr8))
            go_quiet (fail)
            go_wp2_with (go_at_call 29; refine (HADD.out _ (bel_drewN (Below.refl _ _) _)).mono ?_; rintro e w9 ⟨rfl, F', hch9, hC9, hF9⟩; have HC9 := Lib.hid (And.intro hch9 (And.intro hC9 hF9)); clear hch9 hC9 hF9)
            go_roundw
            case rel =>
              obtain ⟨hch9, hC9, hF9⟩ := HC9.out
              rw [HTF.out.2.1] at hch9
              refine ⟨k + 1, by omega, by go_num, ⟨F', hch9, fun x hx => by rcases hF9 x hx with h | h; exact hF x h; have := hB8.out.size; have := hbel.size; have h1 : w8.heap.size ≤ x := h.1; omega⟩, hbel.trans ((((Ch.of_below hB8.out).drewN _).trans' hC9).toBelow hbel.size hF)⟩
            case measure => simp [intOf]; omega
    · go_wp2
      obtain rfl : k = L.length := by omega
      rw [List.take_length] at hch
      refine bodyPost_ret (v := .tuple #[ptrV cb, .int .i64 0]) (by simp [results, Tryd.results17, go_sem, ptrV]) rfl ⟨cb, F, rfl, hch, hF, hbel⟩
end Go.Proofs.YthbiepgpflpfoaaDoor
