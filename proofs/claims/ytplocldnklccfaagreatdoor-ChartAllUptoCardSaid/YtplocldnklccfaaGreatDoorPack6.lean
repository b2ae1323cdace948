/- daybookref06: Close, Open; daybookref06: Open. Printed by gen_ref6w.py; daybookref06: Open, all ways. Printed by gen_ref6x.py; Drawn regions whose last operations overwrite what the first ones load: S is asked behind the operations ahead of n alone. -/
import Derived.Test.YtplocldnklccfaaGreatDoorPack5
import Derived.Maps.AppendAt
import Derived.Deep.RegionHeld3
import Derived.StillTail
namespace Go.Proofs.YtplocldnklccfaaGreatDoor
open Go.RowKit Go.Shelf
set_option linter.unusedVariables false
set_option linter.unusedSimpArgs false

/-- What a call that changes the reference's chart leaves. -/
structure RefPost (R : Nat → Prop) (rb : Nat) (L : List Acct) (v : Value) (w : World) (e : Ending) (w' : World) : Prop where
  ret : e = .returned v
  ex : ∃ R', RefAt w' R' rb L ∧ Ch R w w' ∧ (∀ k, R' k → R k ∨ (w.heap.size ≤ k ∧ k < w'.heap.size))

theorem cellsA_cons (a : Acct) (r : List Acct) : cellsA (a :: r) = .string a.name :: .int .i64 a.typ :: .int .i64 a.opened :: .bool a.closed :: cellsA r := rfl
theorem cellsA_set : ∀ (l : List Acct) (i : Nat) (hi : i < l.length) (b : Bool), (cellsA l).set (i * 4 + 3) (.bool b) = cellsA (l.set i { l[i] with closed := b })
  | [], i, hi, _ => by simp at hi
  | a :: r, 0, _, b => rfl
  | a :: r, i + 1, hi, b => by
    have ih := cellsA_set r i (by simpa using hi) b
    rw [List.set_cons_succ, cellsA_cons, cellsA_cons, show (i + 1) * 4 + 3 = i * 4 + 3 + 1 + 1 + 1 + 1 by omega]
    simp only [List.set_cons_succ, List.getElem_cons_succ]
    rw [ih]
theorem set_shut {L : List Acct} (hr : Rising L) (i : Nat) (hi : i < L.length) : L.set i { L[i] with closed := true } = shutA L[i].name L := by
  unfold shutA
  apply List.ext_getElem
  · simp
  · intro j h1 h2
    rw [List.getElem_set, List.getElem_map]
    have hj : j < L.length := by simpa using h1
    by_cases e : i = j
    · subst e; simp
    · rw [if_neg e]
      have hne : L[j].name ≠ L[i].name := fun h => by
        rcases Nat.lt_trichotomy i j with h3 | h3 | h3
        · have := rising_get hr hj h3; rw [h, cmp_self] at this; omega
        · exact e h3
        · have := rising_get hr hi h3; rw [h, cmp_self] at this; omega
      rw [if_neg hne]
theorem refUse_at {L : List Acct} {name : ByteArray} {i k : Nat} (hk : k < L.length) (h1 : underF L[k].name name = true) (h2 : k ≠ i) (h3 : L[k].closed = false) : refUse L name i = true := by
  unfold refUse
  rw [List.any_eq_true]
  refine ⟨k, by simpa using hk, ?_⟩
  rw [List.getElem?_eq_getElem hk]
  simp [h1, h2, h3]
theorem refUse_none {L : List Acct} {name : ByteArray} {i : Nat} (h : ∀ k (hk : k < L.length), ¬ (underF L[k].name name = true ∧ k ≠ i ∧ L[k].closed = false)) : refUse L name i = false := by
  unfold refUse
  rw [List.any_eq_false]
  intro k hk
  have hk : k < L.length := by simpa using hk
  rw [List.getElem?_eq_getElem hk]
  have := h k hk
  simp only [Bool.and_eq_true, decide_eq_true_eq, Bool.not_eq_true']
  rintro ⟨⟨h1, h2⟩, h3⟩
  exact this ⟨h1, h2, h3⟩

theorem ch_set {R : Nat → Prop} {w w1 : World} {g i : Nat} {v : Value} (h : Below w.heap.size w w1) (hR : R g) : Ch R w (w1.setCell ⟨g, i, none⟩ v) := (Ch.of_below h).setCell (.inl hR) v

set_option maxRecDepth 100000 in
set_option maxHeartbeats 2000000 in
theorem refClose_any {w : World} {R : Nat → Prop} {rb : Nat} {L : List Acct} (h : RefAt w R rb L) (hv : Valid L) (name : ByteArray) :
    Calls Tryz.prog 153 #[.pointer (some ⟨rb, 0, none⟩), .string name] w (RefPost R rb (closeL L name) (.int .i64 (closeE L name)) w) := by
  have hE := closeE_kids hv name
  have hat0 := h
  obtain ⟨A, c, h⟩ := h
  have hat := at_any h name
  have hc0 := h.c0
  have hlt := heap_lt h.blk
  have hle := h.le
  have H := Lib.hid h
  have same : Hid (∀ (n : Int) (e : Ending) (w' : World), n ≠ 0 → closeE L name = n → (e = .returned (.int .i64 n) ∧ Below w.heap.size w w') → RefPost R rb (closeL L name) (.int .i64 (closeE L name)) w e w') := Lib.hid fun n e w' hn hc ⟨h1, h2⟩ => by
    unfold closeL
    rw [hc, if_neg hn]
    exact ⟨h1, R, hat0.below h2, Ch.of_below h2, fun k hk => .inl hk⟩
  have HE := Lib.hid hE
  have HV := Lib.hid hv
  clear h hE hat0 hv
  rcases at_cases L name with ⟨e1, e2, _⟩ | ⟨i, hi, e1, e2, e3, _⟩
  · rw [e1] at hat
    have hr : Hid (closeE L name = 61) := Lib.hid (by rw [HE.out, e2])
    clear e1 e2
    go_enter Tryz.func153, Tryz.ntmps153
    go_wp2_with (go_at_call 214; refine hat.mono ?_; rintro e w1 ⟨rfl, e1⟩; subst e1)
    go_ret
    exact same.out 61 _ _ (by decide) hr.out ⟨rfl, Below.refl _ _⟩
  · rw [e1] at hat
    obtain ⟨g, rfl, hg, r0, r1, r2, r3⟩ := (H.out.read i hi).ex
    have hfr := own_froz H.out.own (g := g) rfl (i * 4 + 3)
    have hE2 : closeE L name = if L[i].closed then 63 else if (kidsA L name).all (·.closed) then 0 else 65 := by rw [HE.out, e2]
    have hU := refUse_eq HV.out hi
    have E3 := Lib.hid e3
    cases hcl : L[i].closed with
    | true =>
      have hr : Hid (closeE L name = 63) := Lib.hid (by rw [hE2, hcl]; rfl)
      rw [hcl] at r3
      clear e1 e2 e3 hE2 hU r0 r1 r2 hfr hcl
      go_enter Tryz.func153, Tryz.ntmps153
      go_wp2_with (go_at_call 214; refine hat.mono ?_; rintro e w1 ⟨rfl, e1⟩; subst e1)
      go_ret
      exact same.out 63 _ _ (by decide) hr.out ⟨rfl, Below.refl _ _⟩
    | false =>
      have hr : Hid (closeE L name = if refUse L name i then 65 else 0) := Lib.hid (by
        rw [hE2, hcl, ← e3, hU, e3]
        cases (kidsA L name).all (·.closed) <;> rfl)
      rw [hcl] at r3
      have hsz : ∀ a ∈ L, a.name.size ≤ 1048576 := fun a ha => by have := HV.out.size ha; omega
      have HS := Lib.hid hsz
      clear e1 e2 e3 hE2 hU r0 r1 r2 hcl hsz
      go_enter Tryz.func153, Tryz.ntmps153
      go_wp2_with (go_at_call 214; refine hat.mono ?_; rintro e w1 ⟨rfl, e1⟩; subst e1)
      go_loopw [6] (fun j wr => ∃ k : Nat, j = .int .i64 (k : Int) ∧ k ≤ L.length ∧ (∀ q (hq : q < L.length), q < k → ¬ (underF L[q].name name = true ∧ q ≠ i ∧ L[q].closed = false)) ∧ Below w1.heap.size w1 wr) (fun j _ => L.length - (intOf j).toNat)
      case atStart => exact ⟨0, rfl, Nat.zero_le _, fun j _ h => absurd h (by omega), Below.refl _ _⟩
      case round =>
        obtain ⟨k, rfl, hk, hno, hbel⟩ := hrel
        have HNO := Lib.hid hno
        have HB := Lib.hid hbel
        have hsz := hbel.size
        have hP := H.out.below hbel
        have qc := hP.c0
        have hgr : g < wr.heap.size := by omega
        have hrb : rb < wr.heap.size := heap_lt hP.blk
        by_cases hlt2 : k < L.length
        · obtain ⟨g', e4, _, q0, q1, q2, q3⟩ := (hP.read k hlt2).ex
          obtain rfl : g = g' := by injection e4 with e4; injection e4
          obtain ⟨a, ha⟩ : ∃ a, a = L[k] := ⟨_, rfl⟩
          rw [← ha] at q0 q1 q2 q3
          have hun := fun W => refUnder_any a.name name W (HS.out a (ha ▸ List.getElem_mem hlt2))
          have HA := Lib.hid ha
          have hmu : L.length - ((k : Int) + 1).toNat < L.length - k := by omega
          have HP := Lib.hid hP
          clear hno hbel hP ha q1 q2
          obtain ⟨u, hu⟩ : ∃ u, u = underF a.name name := ⟨_, rfl⟩
          simp only [← hu] at hun
          have HU := Lib.hid hu
          have HN := Lib.hid hun
          clear hu hun
          have stay : ¬ (u = true ∧ k ≠ i ∧ a.closed = false) → Hid (∀ q (hq : q < L.length), q < k + 1 → ¬ (underF L[q].name name = true ∧ q ≠ i ∧ L[q].closed = false)) := fun hh => Lib.hid fun q hq h1 => by
            by_cases e : q = k
            · subst e
              rw [← HA.out, ← HU.out]; exact hh
            · exact HNO.out q hq (by omega)
          cases u with
          | false =>
            have hn := stay (by simp)
            clear stay
            go_wp2_with (go_at_call 9; refine (HN.out _).mono ?_; rintro e w3 ⟨rfl, hb3⟩; have HB3 := Lib.hid hb3; clear hb3)
            go_roundw
            case rel => exact ⟨k + 1, by go_num, by omega, hn.out, HB.out.trans (HB3.out.mono (by omega))⟩
            case measure => simpa [intOf] using hmu
          | true =>
            by_cases hki : k = i
            · have hn := stay (by simp [hki])
              have hq1 : (((k : Nat) : Int) == ((i : Nat) : Int)) = true := by rw [hki]; simp
              clear stay
              subst hki
              go_wp2_with (go_at_call 9; refine (HN.out _).mono ?_; rintro e w3 ⟨rfl, hb3⟩; have HB3 := Lib.hid hb3; clear hb3)
              go_roundw
              case rel => exact ⟨k + 1, by go_num, by omega, hn.out, HB.out.trans (HB3.out.mono (by omega))⟩
              case measure => simpa [intOf] using hmu
            · have hq1 : (((k : Nat) : Int) == ((i : Nat) : Int)) = false := by rw [beq_eq_false_iff_ne]; omega
              cases hac : a.closed with
              | true =>
                have hn := stay (by simp [hac])
                rw [hac] at q3
                clear stay hac
                go_wp2_with (go_at_call 9; refine (HN.out _).mono ?_; rintro e w3 ⟨rfl, hb3⟩; have p3 := (hb3.cell (p := ⟨g, k * 4 + 3, none⟩) hgr).trans q3; have pc := (hb3.cell (p := ⟨rb, 0, none⟩) hrb).trans qc; have HB3 := Lib.hid hb3; clear hb3)
                go_roundw
                case rel => exact ⟨k + 1, by go_num, by omega, hn.out, HB.out.trans (HB3.out.mono (by omega))⟩
                case measure => simpa [intOf] using hmu
              | false =>
                have hru : Hid (refUse L name i = true) := Lib.hid (refUse_at hlt2 (by rw [← HA.out, ← HU.out]) hki (by rw [← HA.out]; exact hac))
                rw [hac] at q3
                clear stay hac
                go_wp2_with (go_at_call 9; refine (HN.out _).mono ?_; rintro e w3 ⟨rfl, hb3⟩; have p3 := (hb3.cell (p := ⟨g, k * 4 + 3, none⟩) hgr).trans q3; have pc := (hb3.cell (p := ⟨rb, 0, none⟩) hrb).trans qc; have HB3 := Lib.hid hb3; clear hb3)
                go_ret
                exact same.out 65 _ _ (by decide) (by rw [hr.out, hru.out]; rfl) ⟨rfl, HB.out.trans (HB3.out.mono (by omega))⟩
        · obtain ⟨g', e4, _, q0, q1, q2, q3⟩ := (hP.read i hi).ex
          obtain rfl : g = g' := by injection e4 with e4; injection e4
          have hru : Hid (refUse L name i = false) := Lib.hid (refUse_none fun q hq => HNO.out q hq (by omega))
          have hfr := own_froz hP.own (g := g) rfl (i * 4 + 3)
          have hi' : ((i : Nat) : Int) < ((L.length : Nat) : Int) := by omega
          have HP := Lib.hid hP
          clear hno hbel hP q0 q1 q2
          go_wp2
          go_ret
          have h0 : closeE L name = 0 := by rw [hr.out, hru.out]; rfl
          have hset := own_set HP.out.own (g := g) rfl (i * 4 + 3) (.bool true)
          rw [cellsA_set L i hi true, set_shut HV.out.rising i hi, E3.out] at hset
          have hlen : (shutA name L).length = L.length := by unfold shutA; simp
          have hne := HP.out.ne g rfl
          unfold closeL
          rw [h0, if_pos rfl]
          refine ⟨rfl, R, ⟨some ⟨g, 0, none⟩, c, ?_⟩, ch_set HB.out (HP.out.rO g rfl), fun k hk => .inl hk⟩
          refine ⟨?_, ?_, HP.out.rR, ?_, ?_, ?_⟩
          · rw [hlen]; exact (Below.heap_setCell _ _ _ _ hne.symm).trans HP.out.blk
          · rw [hlen]; exact hset
          · rw [hlen]; exact HP.out.rO
          · rw [hlen]; exact HP.out.ne
          · rw [hlen]; exact hle
end Go.Proofs.YtplocldnklccfaaGreatDoor
namespace Go.Proofs.YtplocldnklccfaaGreatDoor
open Go.RowKit Go.Shelf
set_option linter.unusedVariables false
set_option linter.unusedSimpArgs false

def lowA (L : List Acct) (n : ByteArray) : List Acct := L.filter fun b => decide (cmpB b.name n < 0)
def highA (L : List Acct) (n : ByteArray) : List Acct := L.filter fun b => decide (cmpB n b.name < 0)
theorem low_len (L : List Acct) (n : ByteArray) (k : Nat) : (lowA (L.take k) n).length ≤ L.length := by
  unfold lowA
  have := List.length_filter_le (fun b : Acct => decide (cmpB b.name n < 0)) (L.take k)
  simp at this ⊢
  omega
theorem high_len (L : List Acct) (n : ByteArray) (k : Nat) : (highA (L.take k) n).length ≤ L.length := by
  unfold highA
  have := List.length_filter_le (fun b : Acct => decide (cmpB n b.name < 0)) (L.take k)
  simp at this ⊢
  omega
theorem low_yes {L : List Acct} {n : ByteArray} {k : Nat} (hk : k < L.length) (h : cmpB L[k].name n < 0) : lowA (L.take (k + 1)) n = lowA (L.take k) n ++ [L[k]] := by
  unfold lowA
  rw [List.take_succ_eq_append_getElem hk, List.filter_append]
  simp [h]
theorem low_no {L : List Acct} {n : ByteArray} {k : Nat} (hk : k < L.length) (h : ¬ cmpB L[k].name n < 0) : lowA (L.take (k + 1)) n = lowA (L.take k) n := by
  unfold lowA
  rw [List.take_succ_eq_append_getElem hk, List.filter_append]
  simp [h]
theorem high_yes {L : List Acct} {n : ByteArray} {k : Nat} (hk : k < L.length) (h : cmpB n L[k].name < 0) : highA (L.take (k + 1)) n = highA (L.take k) n ++ [L[k]] := by
  unfold highA
  rw [List.take_succ_eq_append_getElem hk, List.filter_append]
  simp [h]
theorem high_no {L : List Acct} {n : ByteArray} {k : Nat} (hk : k < L.length) (h : ¬ cmpB n L[k].name < 0) : highA (L.take (k + 1)) n = highA (L.take k) n := by
  unfold highA
  rw [List.take_succ_eq_append_getElem hk, List.filter_append]
  simp [h]
theorem cellsA_snoc (l : List Acct) (a : Acct) : cellsA (l ++ [a]) = cellsA l ++ encA a := by simp [cellsA]

/-- Between two rounds of a loop that gathers accounts. -/
structure GInv (W : World) (L : List Acct) (l : List Acct) (v i : Value) (wr : World) (k : Nat) : Prop where
  le : k ≤ L.length
  at_ : i = .int .i64 (k : Int)
  own : wr.ownsRow W.heap.size 159 4 v l.length (cellsA l)
  bel : Below W.heap.size W wr

/-- The list behind the reference's Open. -/
theorem RefP.opened {w W wr : World} {R : Nat → Prop} {rb c : Nat} {A : Option Addr} {L M : List Acct} {A' : Option Addr} {c' : Nat} (h : RefP w R rb A c L) (hb1 : Below w.heap.size w W) (hown : wr.ownsRow W.heap.size 159 4 (.slice A' M.length c') M.length (cellsA M)) (hb2 : Below W.heap.size W wr)
    (hM : M.length ≤ 1048576) : ∃ R', RefAt (wr.setCell ⟨rb, 0, none⟩ (.slice A' M.length c')) R' rb M ∧ Ch R w (wr.setCell ⟨rb, 0, none⟩ (.slice A' M.length c')) ∧ (∀ k, R' k → R k ∨ (w.heap.size ≤ k ∧ k < (wr.setCell ⟨rb, 0, none⟩ (.slice A' M.length c')).heap.size)) := by
  have hB : Below w.heap.size w wr := hb1.trans (hb2.mono hb1.size)
  have hP := h.below hB
  have hrb := heap_lt h.blk
  have hs1 := hb1.size
  have hne : ∀ q, (Value.slice A' M.length c').ownBlock = some q → q ≠ rb := fun q hq e => by have := (hown.lt q hq).1; omega
  have hown1 := ownsRow_keep (w' := wr.setCell ⟨rb, 0, none⟩ (.slice A' M.length c')) hown fun q hq => Below.heap_setCell _ _ _ _ (hne q hq)
  have hk := heap_setCell_same (i := 0) hP.blk (.slice A' M.length c')
  refine ⟨fun k => k = rb ∨ (w.heap.size ≤ k ∧ k < (wr.setCell ⟨rb, 0, none⟩ (.slice A' M.length c')).heap.size), ⟨A', c', ?_⟩, ch_set hB h.rR, fun k hk => ?_⟩
  · exact { blk := by simpa using hk
            own := own_base hown1 fun q hq => Nat.zero_le _
            rR := .inl rfl
            rO := fun q hq => .inr ⟨by have := (hown1.lt q hq).1; omega, (hown1.lt q hq).2⟩
            ne := hne
            le := hM }
  · rcases hk with rfl | hk
    · exact .inl h.rR
    · exact .inr hk


set_option maxRecDepth 100000 in
set_option maxHeartbeats 4000000 in
theorem refOpen_root {w : World} {R : Nat → Prop} {rb c : Nat} {A : Option Addr} {L : List Acct} (h : RefP w R rb A c L) (hle : L.length < 100) (name : ByteArray) (typ day : Int) (hs : name.size ≤ 1048576)
    (hg : goodB name.data.toList = true) (hd : 1 ≤ day ∧ day ≤ 3652059) (ht : 0 < typ ∧ typ ≤ 5) (hat : atF L name = -1) (hne : ∀ j (hj : j < L.length), L[j].name ≠ name) (hp : parentF name = none) :
    Calls Tryz.prog 151 #[.pointer (some ⟨rb, 0, none⟩), .string name, .int .i64 typ, .int .i64 day] w (RefPost R rb (refIns ⟨name, typ, day, false⟩ L) (.int .i64 0) w) := by
  obtain ⟨i0, hi, hz0, hz1, hz2⟩ := info_parts info_acc
  have HG := Lib.hid fun W => refGood_any name W hs
  have HI := Lib.hid fun W => refIs_any day W
  have HP := Lib.hid fun W => refParent_any name W hs
  rw [hg] at HG
  simp only [decide_eq_true hd] at HI
  rw [hp] at HP
  have HAT := Lib.hid fun W (hb : Below w.heap.size w W) => at_any (h.below hb) name
  rw [hat] at HAT
  have hlt := heap_lt h.blk
  have H := Lib.hid h
  have HC : Hid (∀ W, Below w.heap.size w W → W.cell? ⟨rb, 0, none⟩ = some (.slice A L.length c) ∧ rb < W.heap.size) := Lib.hid fun W hb => ⟨(H.out.below hb).c0, by have := hb.size; omega⟩
  have hc0 := h.c0
  have ht1 : ¬ typ < 0 := by omega
  have ht2 : ¬ 5 < typ := by omega
  have ht3 : (typ != 0) = true := by rw [bne_iff_ne]; omega
  have HNE := Lib.hid hne
  clear h hg hd hat hp hne
  go_enter Tryz.func151, Tryz.ntmps151
  go_wp2_with (first | (go_at_call 7; with_reducible refine (HG.out _).mono ?_; rintro e w1 ⟨rfl, e1⟩; subst e1) | (go_at_call 213; with_reducible refine (HI.out _).mono ?_; rintro e w1 ⟨rfl, e1⟩; subst e1) | (go_at_call 214; with_reducible refine (HAT.out _ (Below.refl _ _)).mono ?_; rintro e w1 ⟨rfl, e1⟩; subst e1) | (go_at_call 11; with_reducible refine (HP.out _).mono ?_; rintro e w2 ⟨rfl, hb2⟩; have HB := Lib.hid hb2; obtain ⟨rc, rl⟩ := HC.out _ HB.out; clear hb2))
  have hk0 := World.alloc_heap_new w2 (accO ⟨name, typ, day, false⟩)
  have hB0 := HB.out.alloc HB.out.size (accO ⟨name, typ, day, false⟩)
  obtain ⟨W0, hW0⟩ : ∃ W0, w2.alloc (accO ⟨name, typ, day, false⟩) = W0 := ⟨_, rfl⟩
  have hW1 := hW0
  unfold accO at hW1
  rw [hW1]
  rw [hW0] at hk0 hB0
  clear hW0 hW1 rc rl
  obtain ⟨ab, hab⟩ : ∃ ab, ab = w2.heap.size := ⟨_, rfl⟩
  rw [← hab] at hk0 ⊢
  have HAB : Hid (ab < W0.heap.size ∧ W0.cell? ⟨ab, 0, none⟩ = some (.string name) ∧ W0.cell? ⟨ab, 1, none⟩ = some (.int .i64 typ) ∧ W0.cell? ⟨ab, 2, none⟩ = some (.int .i64 day) ∧ W0.cell? ⟨ab, 3, none⟩ = some (.bool false)) := Lib.hid ⟨heap_lt hk0, by rw [cell_of_blk hk0]; rfl, by rw [cell_of_blk hk0]; rfl, by rw [cell_of_blk hk0]; rfl, by rw [cell_of_blk hk0]; rfl⟩
  have HW0 := Lib.hid hB0
  clear hk0 hB0 hab HB
  go_loopw [15, 16] (fun v i wr => ∃ k, GInv W0 L (lowA (L.take k) name) v i wr k) (fun _ i _ => L.length - (intOf i).toNat)
  case atStart => exact ⟨0, Nat.zero_le _, rfl, by rw [List.take_zero]; exact World.ownsRow_nil _ _ _ _, Below.refl _ _⟩
  case round =>
    obtain ⟨k, hk, rfl, hown, hbel⟩ := hrel
    have hP := (H.out.below HW0.out).below hbel
    have rc := hP.c0
    have rl := heap_lt hP.blk
    have hsz := hbel.size
    have HB1 := Lib.hid hbel
    by_cases hlt2 : k < L.length
    · obtain ⟨g, e4, hg, r0, r1, r2, r3⟩ := (hP.read k hlt2).ex
      cases e4
      obtain ⟨a, ha⟩ : ∃ a, a = L[k] := ⟨_, rfl⟩
      rw [← ha] at r0 r1 r2 r3
      have HO := Lib.hid hown
      have HA := Lib.hid ha
      have hmu : L.length - ((k : Int) + 1).toNat < L.length - k := by omega
      have hll := low_len L name k
      have lt0 := bytesLess_cmp a.name name
      by_cases hc : cmpB a.name name < 0
      · rw [decide_eq_true hc] at lt0
        have hyes : Hid (lowA (L.take (k + 1)) name = lowA (L.take k) name ++ [a]) := Lib.hid (by rw [HA.out]; exact low_yes hlt2 (by rw [← HA.out]; exact hc))
        clear hown hbel ha hP hc
        go_wp2_with (at_builtin; refine wpList_append_own _ rfl _ _ 55 rfl W0.heap.size 159 i0 (.agg #[.string ByteArray.empty, .int .i64 0, .int .i64 0, .bool false]) 4 40 Tryz.underlying55 hi hz0 hz1 hz2 rfl (by decide) _ _ _ rfl (HO.out.alloc _) ⟨wr.heap.size, 0, none⟩ 1 1 (encA a) rfl rfl ?c1 ?c2 ?c3 ?c4 ?c5 ?_)
        case c1 => exact enc_new wr a _
        case c2 => intro u hu; unfold encA at hu; simp at hu; rcases hu with rfl | rfl | rfl | rfl <;> rfl
        case c3 => unfold maxLen; omega
        case c4 => omega
        case c5 => simp; omega
        intro v' w5 hown' hgrow _
        have hb5 : Below W0.heap.size W0 w5 := (HB1.out.alloc hsz _).grown hgrow (by simp; omega) fun k' hk' => (HO.out.lt k' hk').1
        have HO1 := Lib.hid hown'
        clear hown' hgrow
        go_wp2
        go_roundw
        case rel => exact ⟨k + 1, by omega, by go_num, by
          have h9 := HO1.out
          rw [hyes.out]
          rw [cellsA_snoc, List.length_append]
          exact h9, hb5⟩
        case measure => simpa [intOf] using hmu
      · rw [decide_eq_false hc] at lt0
        have hyes : Hid (lowA (L.take (k + 1)) name = lowA (L.take k) name) := Lib.hid (low_no hlt2 (by rw [← HA.out]; exact hc))
        clear hown hbel ha hP hc
        go_wp2
        go_roundw
        case rel => exact ⟨k + 1, by omega, by go_num, by rw [hyes.out]; exact HO.out, HB1.out⟩
        case measure => simpa [intOf] using hmu
    · obtain rfl : k = L.length := by omega
      rw [List.take_length] at hown
      have x0 := (hbel.cell (p := ⟨ab, 0, none⟩) HAB.out.1).trans HAB.out.2.1
      have x1 := (hbel.cell (p := ⟨ab, 1, none⟩) HAB.out.1).trans HAB.out.2.2.1
      have x2 := (hbel.cell (p := ⟨ab, 2, none⟩) HAB.out.1).trans HAB.out.2.2.2.1
      have x3 := (hbel.cell (p := ⟨ab, 3, none⟩) HAB.out.1).trans HAB.out.2.2.2.2
      have HO := Lib.hid hown
      have HLEN : Hid ((lowA L name).length ≤ L.length) := Lib.hid (by have := low_len L name L.length; rwa [List.take_length] at this)
      have hln := HLEN.out
      clear hown hbel hP
      go_wp2_with (at_builtin; refine wpList_append_own _ rfl _ _ 55 rfl W0.heap.size 159 i0 (.agg #[.string ByteArray.empty, .int .i64 0, .int .i64 0, .bool false]) 4 40 Tryz.underlying55 hi hz0 hz1 hz2 rfl (by decide) _ _ _ rfl (HO.out.alloc _) ⟨wr.heap.size, 0, none⟩ 1 1 (encA ⟨name, typ, day, false⟩) rfl rfl ?c1 ?c2 ?c3 ?c4 ?c5 ?_)
      case c1 => exact enc_new wr ⟨name, typ, day, false⟩ _
      case c2 => intro u hu; unfold encA at hu; simp at hu; rcases hu with rfl | rfl | rfl | rfl <;> rfl
      case c3 => unfold maxLen; omega
      case c4 => omega
      case c5 => simp; omega
      intro v' w7 hown' hgrow _
      have hb7 : Below W0.heap.size W0 w7 := (HB1.out.alloc hsz _).grown hgrow (by simp; omega) fun k' hk' => (HO.out.lt k' hk').1
      have hown7 : w7.ownsRow W0.heap.size 159 4 v' (lowA L name ++ [(⟨name, typ, day, false⟩ : Acct)]).length (cellsA (lowA L name ++ [(⟨name, typ, day, false⟩ : Acct)])) := by
        rw [cellsA_snoc, List.length_append]; exact hown'
      have HO7 := Lib.hid hown7
      have HB7 := Lib.hid hb7
      clear hown' hgrow hown7 hb7 HO HB1 hk hlt2 rc rl x0 x1 x2 x3 hsz
      obtain ⟨w8, h8⟩ : ∃ w8, w8 = wr := ⟨_, rfl⟩
      subst h8
      go_wp2
      go_loopw [15, 17] (fun v i wr => ∃ k, GInv W0 L (lowA L name ++ [⟨name, typ, day, false⟩] ++ highA (L.take k) name) v i wr k) (fun _ i _ => L.length - (intOf i).toNat)
      case atStart => exact ⟨0, Nat.zero_le _, rfl, by rw [List.take_zero]; simpa [highA] using HO7.out, HB7.out⟩
      case round =>
        obtain ⟨k, hk, rfl, hown, hbel⟩ := hrel
        have hP := (H.out.below HW0.out).below hbel
        have rc := hP.c0
        have rl := heap_lt hP.blk
        have hsz := hbel.size
        have HB1 := Lib.hid hbel
        by_cases hlt2 : k < L.length
        · obtain ⟨g, e4, hg, r0, r1, r2, r3⟩ := (hP.read k hlt2).ex
          cases e4
          obtain ⟨a, ha⟩ : ∃ a, a = L[k] := ⟨_, rfl⟩
          rw [← ha] at r0 r1 r2 r3
          have HO := Lib.hid hown
          have HA := Lib.hid ha
          have hmu : L.length - ((k : Int) + 1).toNat < L.length - k := by omega
          have ne0 := name_ne (show a.name ≠ name from HA.out.symm ▸ HNE.out k hlt2)
          have hll := high_len L name k
          have hl2 : (lowA L name ++ [(⟨name, typ, day, false⟩ : Acct)] ++ highA (L.take k) name).length ≤ 1048576 := by have := HLEN.out; simp only [List.length_append, List.length_cons, List.length_nil]; omega
          have lt0 := bytesLess_cmp a.name name
          by_cases hc : cmpB name a.name < 0
          · rw [decide_eq_false (fun h => by have := cmp_trans hc h; rw [cmp_self] at this; omega)] at lt0
            have hyes : Hid (highA (L.take (k + 1)) name = highA (L.take k) name ++ [a]) := Lib.hid (by rw [HA.out]; exact high_yes hlt2 (by rw [← HA.out]; exact hc))
            clear hown hbel ha hP hc
            go_wp2_with (at_builtin; refine wpList_append_own _ rfl _ _ 55 rfl W0.heap.size 159 i0 (.agg #[.string ByteArray.empty, .int .i64 0, .int .i64 0, .bool false]) 4 40 Tryz.underlying55 hi hz0 hz1 hz2 rfl (by decide) _ _ _ rfl (HO.out.alloc _) ⟨wr.heap.size, 0, none⟩ 1 1 (encA a) rfl rfl ?c1 ?c2 ?c3 ?c4 ?c5 ?_)
            case c1 => exact enc_new wr a _
            case c2 => intro u hu; unfold encA at hu; simp at hu; rcases hu with rfl | rfl | rfl | rfl <;> rfl
            case c3 => unfold maxLen; omega
            case c4 => omega
            case c5 => simp; omega
            intro v' w5 hown' hgrow _
            have hb5 : Below W0.heap.size W0 w5 := (HB1.out.alloc hsz _).grown hgrow (by simp; omega) fun k' hk' => (HO.out.lt k' hk').1
            have HO1 := Lib.hid hown'
            clear hown' hgrow
            go_wp2
            go_roundw
            case rel => exact ⟨k + 1, by omega, by go_num, by
              have h9 := HO1.out
              rw [hyes.out]
              have hl : (lowA L name ++ [(⟨name, typ, day, false⟩ : Acct)] ++ (highA (L.take k) name ++ [a])).length = (lowA L name).length + ((highA (L.take k) name).length + 1) + 1 := by simp only [List.length_append, List.length_cons, List.length_nil]; omega
              have hc : cellsA (lowA L name ++ [(⟨name, typ, day, false⟩ : Acct)] ++ (highA (L.take k) name ++ [a])) = cellsA (lowA L name ++ (⟨name, typ, day, false⟩ : Acct) :: highA (L.take k) name) ++ encA a := by simp [cellsA]
              rw [hl, hc]
              exact h9, hb5⟩
            case measure => simpa [intOf] using hmu
          · rw [decide_eq_true ((cmp_total (HA.out.symm ▸ HNE.out k hlt2)).resolve_right hc)] at lt0
            have hyes : Hid (highA (L.take (k + 1)) name = highA (L.take k) name) := Lib.hid (high_no hlt2 (by rw [← HA.out]; exact hc))
            clear hown hbel ha hP hc
            go_wp2
            go_roundw
            case rel => exact ⟨k + 1, by omega, by go_num, by rw [hyes.out]; exact HO.out, HB1.out⟩
            case measure => simpa [intOf] using hmu
        · obtain rfl : k = L.length := by omega
          rw [List.take_length] at hown
          obtain ⟨A2, c2, rfl⟩ := own_form hown
          have HO := Lib.hid hown
          have hcs := hP.c0
          have hfs := frozen_blk hP.blk 0
          have hlo := HLEN.out
          clear hown hbel hP
          go_wp2
          go_ret
          refine ⟨rfl, ?_⟩
          rw [show (lowA L name).length + ((highA L name).length + 1) = (lowA L name ++ [(⟨name, typ, day, false⟩ : Acct)] ++ highA L name).length by simp only [List.length_append, List.length_cons, List.length_nil]; omega]
          exact H.out.opened HW0.out HO.out HB1.out (by have h1 := low_len L name L.length; have h2 := high_len L name L.length; rw [List.take_length] at h1 h2; simp only [List.length_append, List.length_cons, List.length_nil]; omega)

set_option maxRecDepth 100000 in
set_option maxHeartbeats 4000000 in
theorem refOpen_kid {w : World} {R : Nat → Prop} {rb c : Nat} {A : Option Addr} {L : List Acct} (h : RefP w R rb A c L) (hle : L.length < 100) (name : ByteArray) (day : Int) (hs : name.size ≤ 1048576)
    (hg : goodB name.data.toList = true) (hd : 1 ≤ day ∧ day ≤ 3652059) (hat : atF L name = -1) (hne : ∀ j (hj : j < L.length), L[j].name ≠ name) (u : ByteArray) (hp : parentF name = some u) (k0 : Nat) (hk0 : k0 < L.length) (hau : atF L u = (k0 : Int))
    (q : Acct) (hqe : q = L[k0]) (hqc : q.closed = false) (hqo : ¬ day < q.opened) :
    Calls Tryz.prog 151 #[.pointer (some ⟨rb, 0, none⟩), .string name, .int .i64 0, .int .i64 day] w (RefPost R rb (refIns ⟨name, q.typ, day, false⟩ L) (.int .i64 0) w) := by
  obtain ⟨i0, hi, hz0, hz1, hz2⟩ := info_parts info_acc
  have HG := Lib.hid fun W => refGood_any name W hs
  have HI := Lib.hid fun W => refIs_any day W
  have HP := Lib.hid fun W => refParent_any name W hs
  rw [hg] at HG
  simp only [decide_eq_true hd] at HI
  rw [hp] at HP
  have HAT := Lib.hid fun W (hb : Below w.heap.size w W) => at_any (h.below hb) name
  rw [hat] at HAT
  have HAU := Lib.hid fun W (hb : Below w.heap.size w W) => at_any (h.below hb) u
  rw [hau] at HAU
  have hlt := heap_lt h.blk
  have H := Lib.hid h
  obtain ⟨g0, e4, hg0, _⟩ := (h.read k0 hk0).ex
  subst e4
  have HC : Hid (∀ W, Below w.heap.size w W → W.cell? ⟨rb, 0, none⟩ = some (.slice (some ⟨g0, 0, none⟩) L.length c) ∧ rb < W.heap.size ∧ W.cell? ⟨g0, k0 * 4 + 1, none⟩ = some (.int .i64 q.typ) ∧ W.cell? ⟨g0, k0 * 4 + 2, none⟩ = some (.int .i64 q.opened) ∧ W.cell? ⟨g0, k0 * 4 + 3, none⟩ = some (.bool false)) := Lib.hid fun W hb => by
    obtain ⟨g, e4, _, _, r1, r2, r3⟩ := ((H.out.below hb).read k0 hk0).ex
    cases e4
    rw [← hqe] at r1 r2 r3
    rw [hqc] at r3
    exact ⟨(H.out.below hb).c0, by have := hb.size; omega, r1, r2, r3⟩
  have hc0 := h.c0
  have hk0' : ((k0 : Nat) : Int) < ((L.length : Nat) : Int) := by omega
  have hqo' : decide (day < q.opened) = false := decide_eq_false hqo
  have hneg : ¬ ((k0 : Nat) : Int) < 0 := by omega
  have HNE := Lib.hid hne
  clear h hg hd hat hp hne hau hqe hqc
  go_enter Tryz.func151, Tryz.ntmps151
  go_wp2_with (first | (go_at_call 7; with_reducible refine (HG.out _).mono ?_; rintro e w1 ⟨rfl, e1⟩; subst e1) | (go_at_call 213; with_reducible refine (HI.out _).mono ?_; rintro e w1 ⟨rfl, e1⟩; subst e1) | (go_at_call 214; with_reducible refine (HAT.out _ (Below.refl _ _)).mono ?_; rintro e w1 ⟨rfl, e1⟩; subst e1) | (go_at_call 214; with_reducible refine (HAU.out _ HB.out).mono ?_; rintro e w3 ⟨rfl, e3⟩; have e3 := e3.symm; subst e3) | (go_at_call 11; with_reducible refine (HP.out _).mono ?_; rintro e w2 ⟨rfl, hb2⟩; have HB := Lib.hid hb2; obtain ⟨rc, rl, q1, q2, q3⟩ := HC.out _ HB.out; clear hb2))
  have hk0 := World.alloc_heap_new w2 (accO ⟨name, q.typ, day, false⟩)
  have hB0 := HB.out.alloc HB.out.size (accO ⟨name, q.typ, day, false⟩)
  obtain ⟨W0, hW0⟩ : ∃ W0, w2.alloc (accO ⟨name, q.typ, day, false⟩) = W0 := ⟨_, rfl⟩
  have hW1 := hW0
  unfold accO at hW1
  rw [hW1]
  rw [hW0] at hk0 hB0
  clear hW0 hW1 rc rl q1 q2 q3
  obtain ⟨ab, hab⟩ : ∃ ab, ab = w2.heap.size := ⟨_, rfl⟩
  rw [← hab] at hk0 ⊢
  have HAB : Hid (ab < W0.heap.size ∧ W0.cell? ⟨ab, 0, none⟩ = some (.string name) ∧ W0.cell? ⟨ab, 1, none⟩ = some (.int .i64 q.typ) ∧ W0.cell? ⟨ab, 2, none⟩ = some (.int .i64 day) ∧ W0.cell? ⟨ab, 3, none⟩ = some (.bool false)) := Lib.hid ⟨heap_lt hk0, by rw [cell_of_blk hk0]; rfl, by rw [cell_of_blk hk0]; rfl, by rw [cell_of_blk hk0]; rfl, by rw [cell_of_blk hk0]; rfl⟩
  have HW0 := Lib.hid hB0
  clear hk0 hB0 hab HB
  go_loopw [15, 16] (fun v i wr => ∃ k, GInv W0 L (lowA (L.take k) name) v i wr k) (fun _ i _ => L.length - (intOf i).toNat)
  case atStart => exact ⟨0, Nat.zero_le _, rfl, by rw [List.take_zero]; exact World.ownsRow_nil _ _ _ _, Below.refl _ _⟩
  case round =>
    obtain ⟨k, hk, rfl, hown, hbel⟩ := hrel
    have hP := (H.out.below HW0.out).below hbel
    have rc := hP.c0
    have rl := heap_lt hP.blk
    have hsz := hbel.size
    have HB1 := Lib.hid hbel
    by_cases hlt2 : k < L.length
    · obtain ⟨g, e4, hg, r0, r1, r2, r3⟩ := (hP.read k hlt2).ex
      cases e4
      obtain ⟨a, ha⟩ : ∃ a, a = L[k] := ⟨_, rfl⟩
      rw [← ha] at r0 r1 r2 r3
      have HO := Lib.hid hown
      have HA := Lib.hid ha
      have hmu : L.length - ((k : Int) + 1).toNat < L.length - k := by omega
      have hll := low_len L name k
      have lt0 := bytesLess_cmp a.name name
      by_cases hc : cmpB a.name name < 0
      · rw [decide_eq_true hc] at lt0
        have hyes : Hid (lowA (L.take (k + 1)) name = lowA (L.take k) name ++ [a]) := Lib.hid (by rw [HA.out]; exact low_yes hlt2 (by rw [← HA.out]; exact hc))
        clear hown hbel ha hP hc
        go_wp2_with (at_builtin; refine wpList_append_own _ rfl _ _ 55 rfl W0.heap.size 159 i0 (.agg #[.string ByteArray.empty, .int .i64 0, .int .i64 0, .bool false]) 4 40 Tryz.underlying55 hi hz0 hz1 hz2 rfl (by decide) _ _ _ rfl (HO.out.alloc _) ⟨wr.heap.size, 0, none⟩ 1 1 (encA a) rfl rfl ?c1 ?c2 ?c3 ?c4 ?c5 ?_)
        case c1 => exact enc_new wr a _
        case c2 => intro u hu; unfold encA at hu; simp at hu; rcases hu with rfl | rfl | rfl | rfl <;> rfl
        case c3 => unfold maxLen; omega
        case c4 => omega
        case c5 => simp; omega
        intro v' w5 hown' hgrow _
        have hb5 : Below W0.heap.size W0 w5 := (HB1.out.alloc hsz _).grown hgrow (by simp; omega) fun k' hk' => (HO.out.lt k' hk').1
        have HO1 := Lib.hid hown'
        clear hown' hgrow
        go_wp2
        go_roundw
        case rel => exact ⟨k + 1, by omega, by go_num, by
          have h9 := HO1.out
          rw [hyes.out]
          rw [cellsA_snoc, List.length_append]
          exact h9, hb5⟩
        case measure => simpa [intOf] using hmu
      · rw [decide_eq_false hc] at lt0
        have hyes : Hid (lowA (L.take (k + 1)) name = lowA (L.take k) name) := Lib.hid (low_no hlt2 (by rw [← HA.out]; exact hc))
        clear hown hbel ha hP hc
        go_wp2
        go_roundw
        case rel => exact ⟨k + 1, by omega, by go_num, by rw [hyes.out]; exact HO.out, HB1.out⟩
        case measure => simpa [intOf] using hmu
    · obtain rfl : k = L.length := by omega
      rw [List.take_length] at hown
      have x0 := (hbel.cell (p := ⟨ab, 0, none⟩) HAB.out.1).trans HAB.out.2.1
      have x1 := (hbel.cell (p := ⟨ab, 1, none⟩) HAB.out.1).trans HAB.out.2.2.1
      have x2 := (hbel.cell (p := ⟨ab, 2, none⟩) HAB.out.1).trans HAB.out.2.2.2.1
      have x3 := (hbel.cell (p := ⟨ab, 3, none⟩) HAB.out.1).trans HAB.out.2.2.2.2
      have HO := Lib.hid hown
      have HLEN : Hid ((lowA L name).length ≤ L.length) := Lib.hid (by have := low_len L name L.length; rwa [List.take_length] at this)
      have hln := HLEN.out
      clear hown hbel hP
      go_wp2_with (at_builtin; refine wpList_append_own _ rfl _ _ 55 rfl W0.heap.size 159 i0 (.agg #[.string ByteArray.empty, .int .i64 0, .int .i64 0, .bool false]) 4 40 Tryz.underlying55 hi hz0 hz1 hz2 rfl (by decide) _ _ _ rfl (HO.out.alloc _) ⟨wr.heap.size, 0, none⟩ 1 1 (encA ⟨name, q.typ, day, false⟩) rfl rfl ?c1 ?c2 ?c3 ?c4 ?c5 ?_)
      case c1 => exact enc_new wr ⟨name, q.typ, day, false⟩ _
      case c2 => intro u hu; unfold encA at hu; simp at hu; rcases hu with rfl | rfl | rfl | rfl <;> rfl
      case c3 => unfold maxLen; omega
      case c4 => omega
      case c5 => simp; omega
      intro v' w7 hown' hgrow _
      have hb7 : Below W0.heap.size W0 w7 := (HB1.out.alloc hsz _).grown hgrow (by simp; omega) fun k' hk' => (HO.out.lt k' hk').1
      have hown7 : w7.ownsRow W0.heap.size 159 4 v' (lowA L name ++ [(⟨name, q.typ, day, false⟩ : Acct)]).length (cellsA (lowA L name ++ [(⟨name, q.typ, day, false⟩ : Acct)])) := by
        rw [cellsA_snoc, List.length_append]; exact hown'
      have HO7 := Lib.hid hown7
      have HB7 := Lib.hid hb7
      clear hown' hgrow hown7 hb7 HO HB1 hk hlt2 rc rl x0 x1 x2 x3 hsz
      obtain ⟨w8, h8⟩ : ∃ w8, w8 = wr := ⟨_, rfl⟩
      subst h8
      go_wp2
      go_loopw [15, 17] (fun v i wr => ∃ k, GInv W0 L (lowA L name ++ [⟨name, q.typ, day, false⟩] ++ highA (L.take k) name) v i wr k) (fun _ i _ => L.length - (intOf i).toNat)
      case atStart => exact ⟨0, Nat.zero_le _, rfl, by rw [List.take_zero]; simpa [highA] using HO7.out, HB7.out⟩
      case round =>
        obtain ⟨k, hk, rfl, hown, hbel⟩ := hrel
        have hP := (H.out.below HW0.out).below hbel
        have rc := hP.c0
        have rl := heap_lt hP.blk
        have hsz := hbel.size
        have HB1 := Lib.hid hbel
        by_cases hlt2 : k < L.length
        · obtain ⟨g, e4, hg, r0, r1, r2, r3⟩ := (hP.read k hlt2).ex
          cases e4
          obtain ⟨a, ha⟩ : ∃ a, a = L[k] := ⟨_, rfl⟩
          rw [← ha] at r0 r1 r2 r3
          have HO := Lib.hid hown
          have HA := Lib.hid ha
          have hmu : L.length - ((k : Int) + 1).toNat < L.length - k := by omega
          have ne0 := name_ne (show a.name ≠ name from HA.out.symm ▸ HNE.out k hlt2)
          have hll := high_len L name k
          have hl2 : (lowA L name ++ [(⟨name, q.typ, day, false⟩ : Acct)] ++ highA (L.take k) name).length ≤ 1048576 := by have := HLEN.out; simp only [List.length_append, List.length_cons, List.length_nil]; omega
          have lt0 := bytesLess_cmp a.name name
          by_cases hc : cmpB name a.name < 0
          · rw [decide_eq_false (fun h => by have := cmp_trans hc h; rw [cmp_self] at this; omega)] at lt0
            have hyes : Hid (highA (L.take (k + 1)) name = highA (L.take k) name ++ [a]) := Lib.hid (by rw [HA.out]; exact high_yes hlt2 (by rw [← HA.out]; exact hc))
            clear hown hbel ha hP hc
            go_wp2_with (at_builtin; refine wpList_append_own _ rfl _ _ 55 rfl W0.heap.size 159 i0 (.agg #[.string ByteArray.empty, .int .i64 0, .int .i64 0, .bool false]) 4 40 Tryz.underlying55 hi hz0 hz1 hz2 rfl (by decide) _ _ _ rfl (HO.out.alloc _) ⟨wr.heap.size, 0, none⟩ 1 1 (encA a) rfl rfl ?c1 ?c2 ?c3 ?c4 ?c5 ?_)
            case c1 => exact enc_new wr a _
            case c2 => intro u hu; unfold encA at hu; simp at hu; rcases hu with rfl | rfl | rfl | rfl <;> rfl
            case c3 => unfold maxLen; omega
            case c4 => omega
            case c5 => simp; omega
            intro v' w5 hown' hgrow _
            have hb5 : Below W0.heap.size W0 w5 := (HB1.out.alloc hsz _).grown hgrow (by simp; omega) fun k' hk' => (HO.out.lt k' hk').1
            have HO1 := Lib.hid hown'
            clear hown' hgrow
            go_wp2
            go_roundw
            case rel => exact ⟨k + 1, by omega, by go_num, by
              have h9 := HO1.out
              rw [hyes.out]
              have hl : (lowA L name ++ [(⟨name, q.typ, day, false⟩ : Acct)] ++ (highA (L.take k) name ++ [a])).length = (lowA L name).length + ((highA (L.take k) name).length + 1) + 1 := by simp only [List.length_append, List.length_cons, List.length_nil]; omega
              have hc : cellsA (lowA L name ++ [(⟨name, q.typ, day, false⟩ : Acct)] ++ (highA (L.take k) name ++ [a])) = cellsA (lowA L name ++ (⟨name, q.typ, day, false⟩ : Acct) :: highA (L.take k) name) ++ encA a := by simp [cellsA]
              rw [hl, hc]
              exact h9, hb5⟩
            case measure => simpa [intOf] using hmu
          · rw [decide_eq_true ((cmp_total (HA.out.symm ▸ HNE.out k hlt2)).resolve_right hc)] at lt0
            have hyes : Hid (highA (L.take (k + 1)) name = highA (L.take k) name) := Lib.hid (high_no hlt2 (by rw [← HA.out]; exact hc))
            clear hown hbel ha hP hc
            go_wp2
            go_roundw
            case rel => exact ⟨k + 1, by omega, by go_num, by rw [hyes.out]; exact HO.out, HB1.out⟩
            case measure => simpa [intOf] using hmu
        · obtain rfl : k = L.length := by omega
          rw [List.take_length] at hown
          obtain ⟨A2, c2, rfl⟩ := own_form hown
          have HO := Lib.hid hown
          have hcs := hP.c0
          have hfs := frozen_blk hP.blk 0
          have hlo := HLEN.out
          clear hown hbel hP
          go_wp2
          go_ret
          refine ⟨rfl, ?_⟩
          rw [show (lowA L name).length + ((highA L name).length + 1) = (lowA L name ++ [(⟨name, q.typ, day, false⟩ : Acct)] ++ highA L name).length by simp only [List.length_append, List.length_cons, List.length_nil]; omega]
          exact H.out.opened HW0.out HO.out HB1.out (by have h1 := low_len L name L.length; have h2 := high_len L name L.length; rw [List.take_length] at h1 h2; simp only [List.length_append, List.length_cons, List.length_nil]; omega)
end Go.Proofs.YtplocldnklccfaaGreatDoor
namespace Go.Proofs.YtplocldnklccfaaGreatDoor
open Go.RowKit Go.Shelf
set_option linter.unusedVariables false
set_option linter.unusedSimpArgs false

set_option maxRecDepth 100000 in
set_option maxHeartbeats 4000000 in
theorem refOpen_any {w : World} {R : Nat → Prop} {rb : Nat} {L : List Acct} (h : RefAt w R rb L) (hv : Valid L) (name : ByteArray) (typ day : Int) (hs : name.size ≤ 1048576) :
    Calls Tryz.prog 151 #[.pointer (some ⟨rb, 0, none⟩), .string name, .int .i64 typ, .int .i64 day] w (RefPost R rb (openL L name typ day) (.int .i64 (openE L name typ day)) w) := by
  have hat0 := h
  obtain ⟨A, c, h⟩ := h
  have same : Hid (∀ (n : Int) (e : Ending) (w' : World), n ≠ 0 → openE L name typ day = n → (e = .returned (.int .i64 n) ∧ Below w.heap.size w w') → RefPost R rb (openL L name typ day) (.int .i64 (openE L name typ day)) w e w') := Lib.hid fun n e w' hn hc ⟨h1, h2⟩ => by
    unfold openL
    rw [hc, if_neg hn]
    exact ⟨h1, R, hat0.below h2, Ch.of_below h2, fun k hk => .inl hk⟩
  have HG := Lib.hid fun W => refGood_any name W hs
  have HI := Lib.hid fun W => refIs_any day W
  have HP := Lib.hid fun W => refParent_any name W hs
  have HAT := Lib.hid fun W (hb : Below w.heap.size w W) => at_any (h.below hb) name
  have hlt := heap_lt h.blk
  have hle := hv.le
  have hc0 := h.c0
  have H := Lib.hid h
  have HV := Lib.hid hv
  have HC : Hid (∀ W, Below w.heap.size w W → W.cell? ⟨rb, 0, none⟩ = some (.slice A L.length c) ∧ rb < W.heap.size) := Lib.hid fun W hb => ⟨(H.out.below hb).c0, by have := hb.size; omega⟩
  clear h hat0 hv
  cases hg : goodB name.data.toList with
  | false =>
    have hr : Hid (openE L name typ day = 60) := Lib.hid (by unfold openE; rw [if_pos hg])
    rw [hg] at HG
    clear hg
    go_enter Tryz.func151, Tryz.ntmps151
    go_wp2_with (first | (go_at_call 7; with_reducible refine (HG.out _).mono ?_; rintro e w1 ⟨rfl, e1⟩; have e1 := e1.symm; subst e1))
    go_ret
    exact same.out 60 _ _ (by decide) hr.out ⟨rfl, Below.refl _ _⟩
  | true =>
  have hE1 : openE L name typ day = if ¬ (1 ≤ day ∧ day ≤ 3652059) ∨ typ < 0 ∨ 5 < typ then 1 else if (findA L name).isSome then 62 else if 100 ≤ L.length then 2 else match parentF name with | none => if typ = 0 then 64 else 0 | some u => if typ = 0 then mayE L u day else 64 := by
    unfold openE
    rw [if_neg (by rw [hg]; simp)]
    rfl
  have HE1 := Lib.hid hE1
  have HGD := Lib.hid hg
  rw [hg] at HG
  clear hg hE1
  by_cases hd : 1 ≤ day ∧ day ≤ 3652059
  case neg =>
    have hr : Hid (openE L name typ day = 1) := Lib.hid (by rw [HE1.out, if_pos (.inl hd)])
    simp only [decide_eq_false hd] at HI
    clear hd
    go_enter Tryz.func151, Tryz.ntmps151
    go_wp2_with (first | (go_at_call 7; with_reducible refine (HG.out _).mono ?_; rintro e w1 ⟨rfl, e1⟩; have e1 := e1.symm; subst e1) | (go_at_call 213; with_reducible refine (HI.out _).mono ?_; rintro e w1 ⟨rfl, e1⟩; have e1 := e1.symm; subst e1))
    go_ret
    exact same.out 1 _ _ (by decide) hr.out ⟨rfl, Below.refl _ _⟩
  have HD := Lib.hid hd
  simp only [decide_eq_true hd] at HI
  clear hd
  by_cases ht0 : typ < 0
  · have hr : Hid (openE L name typ day = 1) := Lib.hid (by rw [HE1.out, if_pos (.inr (.inl ht0))])
    go_enter Tryz.func151, Tryz.ntmps151
    go_wp2_with (first | (go_at_call 7; with_reducible refine (HG.out _).mono ?_; rintro e w1 ⟨rfl, e1⟩; have e1 := e1.symm; subst e1) | (go_at_call 213; with_reducible refine (HI.out _).mono ?_; rintro e w1 ⟨rfl, e1⟩; have e1 := e1.symm; subst e1))
    go_ret
    exact same.out 1 _ _ (by decide) hr.out ⟨rfl, Below.refl _ _⟩
  by_cases ht5 : 5 < typ
  · have hr : Hid (openE L name typ day = 1) := Lib.hid (by rw [HE1.out, if_pos (.inr (.inr ht5))])
    go_enter Tryz.func151, Tryz.ntmps151
    go_wp2_with (first | (go_at_call 7; with_reducible refine (HG.out _).mono ?_; rintro e w1 ⟨rfl, e1⟩; have e1 := e1.symm; subst e1) | (go_at_call 213; with_reducible refine (HI.out _).mono ?_; rintro e w1 ⟨rfl, e1⟩; have e1 := e1.symm; subst e1))
    go_ret
    exact same.out 1 _ _ (by decide) hr.out ⟨rfl, Below.refl _ _⟩
  have hE2 : openE L name typ day = if (findA L name).isSome then 62 else if 100 ≤ L.length then 2 else match parentF name with | none => if typ = 0 then 64 else 0 | some u => if typ = 0 then mayE L u day else 64 := by
    rw [HE1.out, if_neg (by rintro (h | h | h); exact h HD.out; exact ht0 h; exact ht5 h)]
  rcases at_cases L name with ⟨e1, e2, hne⟩ | ⟨i, hi, e1, e2, _, _⟩
  case inr =>
    have hr : Hid (openE L name typ day = 62) := Lib.hid (by rw [hE2, e2]; rfl)
    rw [e1] at HAT
    clear e1 e2 hE2
    go_enter Tryz.func151, Tryz.ntmps151
    go_wp2_with (first | (go_at_call 7; with_reducible refine (HG.out _).mono ?_; rintro e w1 ⟨rfl, e1⟩; have e1 := e1.symm; subst e1) | (go_at_call 213; with_reducible refine (HI.out _).mono ?_; rintro e w1 ⟨rfl, e1⟩; have e1 := e1.symm; subst e1) | (go_at_call 214; with_reducible refine (HAT.out _ (Below.refl _ _)).mono ?_; rintro e w1 ⟨rfl, e1⟩; have e1 := e1.symm; subst e1))
    go_ret
    exact same.out 62 _ _ (by decide) hr.out ⟨rfl, Below.refl _ _⟩
  have HAT1 := Lib.hid e1
  rw [e2] at hE2
  simp only [Option.isSome_none, Bool.false_eq_true, if_false] at hE2
  have HNE := Lib.hid hne
  have HF := Lib.hid e2
  rw [e1] at HAT
  clear e1 e2 hne
  by_cases hL : 100 ≤ L.length
  · have hr : Hid (openE L name typ day = 2) := Lib.hid (by rw [hE2, if_pos hL])
    clear hE2
    go_enter Tryz.func151, Tryz.ntmps151
    go_wp2_with (first | (go_at_call 7; with_reducible refine (HG.out _).mono ?_; rintro e w1 ⟨rfl, e1⟩; have e1 := e1.symm; subst e1) | (go_at_call 213; with_reducible refine (HI.out _).mono ?_; rintro e w1 ⟨rfl, e1⟩; have e1 := e1.symm; subst e1) | (go_at_call 214; with_reducible refine (HAT.out _ (Below.refl _ _)).mono ?_; rintro e w1 ⟨rfl, e1⟩; have e1 := e1.symm; subst e1))
    go_ret
    exact same.out 2 _ _ (by decide) hr.out ⟨rfl, Below.refl _ _⟩
  rw [if_neg hL] at hE2
  have HE2 := Lib.hid hE2
  clear hE2
  cases hp : parentF name with
  | none =>
    by_cases ht : typ = 0
    · have hr : Hid (openE L name typ day = 64) := Lib.hid (by rw [HE2.out, hp]; simp only [if_pos ht])
      rw [hp] at HP
      have ht3 : (typ != 0) = false := by rw [ht]; rfl
      clear hp
      go_enter Tryz.func151, Tryz.ntmps151
      go_wp2_with (first | (go_at_call 7; with_reducible refine (HG.out _).mono ?_; rintro e w1 ⟨rfl, e1⟩; have e1 := e1.symm; subst e1) | (go_at_call 213; with_reducible refine (HI.out _).mono ?_; rintro e w1 ⟨rfl, e1⟩; have e1 := e1.symm; subst e1) | (go_at_call 214; with_reducible refine (HAT.out _ (Below.refl _ _)).mono ?_; rintro e w1 ⟨rfl, e1⟩; have e1 := e1.symm; subst e1) | (go_at_call 11; with_reducible refine (HP.out _).mono ?_; rintro e w2 ⟨rfl, hb2⟩; have HB := Lib.hid hb2; obtain ⟨rc, rl⟩ := HC.out _ HB.out; clear hb2))
      go_ret
      exact same.out 64 _ _ (by decide) hr.out ⟨rfl, HB.out⟩
    · have hr : openE L name typ day = 0 := by rw [HE2.out, hp]; simp only [if_neg ht]
      have hA : openA L name typ day = ⟨name, typ, day, false⟩ := by unfold openA; rw [hp]
      unfold openL
      rw [hr, if_pos rfl, hA, ← refIns_eq HV.out.rising (show findA L (⟨name, typ, day, false⟩ : Acct).name = none from HF.out)]
      exact refOpen_root H.out (by omega) name typ day hs HGD.out HD.out ⟨by omega, by omega⟩ HAT1.out HNE.out hp
  | some u =>
    by_cases ht : typ = 0
    case neg =>
      have hr : Hid (openE L name typ day = 64) := Lib.hid (by rw [HE2.out, hp]; simp only [if_neg ht])
      rw [hp] at HP
      have ht3 : (typ != 0) = true := by rw [bne_iff_ne]; exact ht
      clear hp
      go_enter Tryz.func151, Tryz.ntmps151
      go_wp2_with (first | (go_at_call 7; with_reducible refine (HG.out _).mono ?_; rintro e w1 ⟨rfl, e1⟩; have e1 := e1.symm; subst e1) | (go_at_call 213; with_reducible refine (HI.out _).mono ?_; rintro e w1 ⟨rfl, e1⟩; have e1 := e1.symm; subst e1) | (go_at_call 214; with_reducible refine (HAT.out _ (Below.refl _ _)).mono ?_; rintro e w1 ⟨rfl, e1⟩; have e1 := e1.symm; subst e1) | (go_at_call 11; with_reducible refine (HP.out _).mono ?_; rintro e w2 ⟨rfl, hb2⟩; have HB := Lib.hid hb2; obtain ⟨rc, rl⟩ := HC.out _ HB.out; clear hb2))
      go_ret
      exact same.out 64 _ _ (by decide) hr.out ⟨rfl, HB.out⟩
    subst ht
    have hE3 : openE L name 0 day = mayE L u day := by rw [HE2.out, hp]; rfl
    have hpu := hp
    rw [hp] at HP
    have HPU := Lib.hid hpu
    clear hp hpu
    have HAU := Lib.hid fun W (hb : Below w.heap.size w W) => at_any (H.out.below hb) u
    rcases at_cases L u with ⟨e1, e2, _⟩ | ⟨k0, hk0, e1, e2, _, _⟩
    · have hr : Hid (openE L name 0 day = 61) := Lib.hid (by rw [hE3]; unfold mayE; rw [e2])
      rw [e1] at HAU
      clear e1 e2 hE3
      go_enter Tryz.func151, Tryz.ntmps151
      go_wp2_with (first | (go_at_call 7; with_reducible refine (HG.out _).mono ?_; rintro e w1 ⟨rfl, e1⟩; have e1 := e1.symm; subst e1) | (go_at_call 213; with_reducible refine (HI.out _).mono ?_; rintro e w1 ⟨rfl, e1⟩; have e1 := e1.symm; subst e1) | (go_at_call 214; with_reducible refine (HAT.out _ (Below.refl _ _)).mono ?_; rintro e w1 ⟨rfl, e1⟩; have e1 := e1.symm; subst e1) | (go_at_call 214; with_reducible refine (HAU.out _ HB.out).mono ?_; rintro e w3 ⟨rfl, e3⟩; have e3 := e3.symm; subst e3) | (go_at_call 11; with_reducible refine (HP.out _).mono ?_; rintro e w2 ⟨rfl, hb2⟩; have HB := Lib.hid hb2; obtain ⟨rc, rl⟩ := HC.out _ HB.out; clear hb2))
      go_ret
      exact same.out 61 _ _ (by decide) hr.out ⟨rfl, HB.out⟩
    have hE4 : openE L name 0 day = if L[k0].closed then 63 else if day < L[k0].opened then 66 else 0 := by rw [hE3]; unfold mayE; rw [e2]
    have hA : Hid (openA L name 0 day = ⟨name, L[k0].typ, day, false⟩) := Lib.hid (by unfold openA; rw [HPU.out]; simp only [e2, Option.getD_some])
    obtain ⟨q, hq⟩ : ∃ q, q = L[k0] := ⟨_, rfl⟩
    rw [← hq] at hE4 hA
    have HAU1 := Lib.hid e1
    rw [e1] at HAU
    obtain ⟨g0, e4, hg0, _⟩ := (H.out.read k0 hk0).ex
    subst e4
    have HC2 : Hid (∀ W, Below w.heap.size w W → W.cell? ⟨rb, 0, none⟩ = some (.slice (some ⟨g0, 0, none⟩) L.length c) ∧ rb < W.heap.size ∧ W.cell? ⟨g0, k0 * 4 + 1, none⟩ = some (.int .i64 q.typ) ∧ W.cell? ⟨g0, k0 * 4 + 2, none⟩ = some (.int .i64 q.opened) ∧ W.cell? ⟨g0, k0 * 4 + 3, none⟩ = some (.bool q.closed)) := Lib.hid fun W hb => by
      obtain ⟨g, e4, _, _, r1, r2, r3⟩ := ((H.out.below hb).read k0 hk0).ex
      cases e4
      rw [← hq] at r1 r2 r3
      exact ⟨(H.out.below hb).c0, by have := hb.size; omega, r1, r2, r3⟩
    have hk0' : ((k0 : Nat) : Int) < ((L.length : Nat) : Int) := by omega
    have hneg : ¬ ((k0 : Nat) : Int) < 0 := by omega
    have HQ := Lib.hid hq
    clear e1 e2 hE3 HC hq
    cases hqc : q.closed with
    | true =>
      have hr : Hid (openE L name 0 day = 63) := Lib.hid (by rw [hE4, hqc]; rfl)
      rw [hqc] at HC2
      clear hE4
      go_enter Tryz.func151, Tryz.ntmps151
      go_wp2_with (first | (go_at_call 7; with_reducible refine (HG.out _).mono ?_; rintro e w1 ⟨rfl, e1⟩; have e1 := e1.symm; subst e1) | (go_at_call 213; with_reducible refine (HI.out _).mono ?_; rintro e w1 ⟨rfl, e1⟩; have e1 := e1.symm; subst e1) | (go_at_call 214; with_reducible refine (HAT.out _ (Below.refl _ _)).mono ?_; rintro e w1 ⟨rfl, e1⟩; have e1 := e1.symm; subst e1) | (go_at_call 214; with_reducible refine (HAU.out _ HB.out).mono ?_; rintro e w3 ⟨rfl, e3⟩; have e3 := e3.symm; subst e3) | (go_at_call 11; with_reducible refine (HP.out _).mono ?_; rintro e w2 ⟨rfl, hb2⟩; have HB := Lib.hid hb2; obtain ⟨rc, rl, q1, q2, q3⟩ := HC2.out _ HB.out; clear hb2))
      go_ret
      exact same.out 63 _ _ (by decide) hr.out ⟨rfl, HB.out⟩
    | false =>
      by_cases hqo : day < q.opened
      · have hr : Hid (openE L name 0 day = 66) := Lib.hid (by rw [hE4, hqc]; simp [hqo])
        rw [hqc] at HC2
        clear hE4
        go_enter Tryz.func151, Tryz.ntmps151
        go_wp2_with (first | (go_at_call 7; with_reducible refine (HG.out _).mono ?_; rintro e w1 ⟨rfl, e1⟩; have e1 := e1.symm; subst e1) | (go_at_call 213; with_reducible refine (HI.out _).mono ?_; rintro e w1 ⟨rfl, e1⟩; have e1 := e1.symm; subst e1) | (go_at_call 214; with_reducible refine (HAT.out _ (Below.refl _ _)).mono ?_; rintro e w1 ⟨rfl, e1⟩; have e1 := e1.symm; subst e1) | (go_at_call 214; with_reducible refine (HAU.out _ HB.out).mono ?_; rintro e w3 ⟨rfl, e3⟩; have e3 := e3.symm; subst e3) | (go_at_call 11; with_reducible refine (HP.out _).mono ?_; rintro e w2 ⟨rfl, hb2⟩; have HB := Lib.hid hb2; obtain ⟨rc, rl, q1, q2, q3⟩ := HC2.out _ HB.out; clear hb2))
        go_ret
        exact same.out 66 _ _ (by decide) hr.out ⟨rfl, HB.out⟩
      · have hr : openE L name 0 day = 0 := by rw [hE4, hqc]; simp [hqo]
        unfold openL
        rw [hr, if_pos rfl, hA.out, ← refIns_eq HV.out.rising (show findA L (⟨name, q.typ, day, false⟩ : Acct).name = none from HF.out)]
        exact refOpen_kid H.out (by omega) name day hs HGD.out HD.out HAT1.out HNE.out u HPU.out k0 hk0 HAU1.out q HQ.out hqc hqo
end Go.Proofs.YtplocldnklccfaaGreatDoor
namespace Go.Proofs.YtplocldnklccfaaGreatDoor
set_option linter.unusedVariables false

section
variable {P : Program} {ops : Array Oper} {Q : Exit → Act → World → Prop} {md : Region.Mode} {S : World → Prop} {n : Nat}

/-- Whatever order is picked from here on; S holds behind each operation ahead of n. -/
def wpAnyN (P : Program) (md : Region.Mode) (ops : Array Oper) (Q : Exit → Act → World → Prop) (S : World → Prop) (n : Nat) : Nat → Array Bool → Act → World → Prop
  | 0, listed, a, w => Region.ready md ops listed = [] ∧ Q .normal a w
  | fuel + 1, listed, a, w =>
    (Region.ready md ops listed = [] → Q .normal a w) ∧
    ∀ i ∈ Region.ready md ops listed, wpOp P ops Q i (fun a' w' => (i < n → S w') ∧ wpAnyN P md ops Q S n fuel (listed.setIfInBounds i true) a' w') a w

theorem wpAny_of_n : ∀ (fuel : Nat) (listed : Array Bool) (a : Act) (w : World), wpAnyN P md ops Q S n fuel listed a w → wpAny P md ops Q fuel listed a w
  | 0, _, _, _, h => h
  | fuel + 1, _, _, _, h => ⟨h.1, fun i hi => wpOp_mono (fun a' w' h' => wpAny_of_n fuel _ a' w' h'.2) (h.2 i hi)⟩

/-- Two that may come up do not wait for each other. -/
theorem no_wait {listed : Array Bool} {i j : Nat} {oj : Oper} (hi : i ∈ Region.ready md ops listed) (hj : j ∈ Region.ready md ops listed) (ho : ops[j]? = some oj) {d : _} (hd : d ∈ oj.after) (hb : Region.binds md d = true) : d.on ≠ i := by
  obtain ⟨_, o2, ho2, hall⟩ := mem_ready.1 hj
  rw [ho] at ho2
  cases ho2
  have hdone := hall d hd hb
  have hopen := (mem_ready.1 hi).1
  intro heq
  subst heq
  by_cases hl : d.on < listed.size
  · simp [hl] at hdone hopen
    simp [hopen] at hdone
  · simp [Array.getElem?_eq_none (Nat.le_of_not_lt hl)] at hdone

/-- Number i, oi, may go ahead of all that are still to come: what does not wait for it is apart from it. -/
structure Early (md : Region.Mode) (ops : Array Oper) (i : Nat) (oi : Oper) (listed : Array Bool) : Prop where
  apart : ∀ j oj, ops[j]? = some oj → j ≠ i → listed.getD j true = false → (∀ d ∈ oj.after, Region.binds md d = true → d.on ≠ i) → oi.apart ops oj = true
theorem Early.mark {i : Nat} {oi : Oper} {listed : Array Bool} (h : Early md ops i oi listed) {j : Nat} (hj : listed.getD j true = false) : Early md ops i oi (listed.setIfInBounds j true) :=
  ⟨fun k ok hk hne hun hno => h.apart k ok hk hne (if e : j = k then e ▸ hj else getD_set_ne true e ▸ hun) hno⟩

/-- It is taken first, where it yields its value in every world that meets S, and all from n on wait for it. -/
theorem early_first {i : Nat} {oi : Oper} {v : Value} (hi : ops[i]? = some oi) (hsel : ∀ (j : Nat) (o : Oper) cs b, ops[j]? = some o → o.op ≠ .select cs b)
    (hQ : ∀ c a w, Q (.panic c) (a.put oi.dst v) w → Q (.panic c) a w) (hsink : ∀ j oj, ops[j]? = some oj → n ≤ j → j ≠ i → ∃ d ∈ oj.after, Region.binds md d = true ∧ d.on = i)
    (fuel : Nat) (listed : Array Bool) (a : Act) (w : World) (he : Early md ops i oi listed) (hr : i ∈ Region.ready md ops listed) (hy : YieldsIf P ops S oi v a) (hS : S w)
    (H : wpAnyN P md ops Q S n fuel (listed.setIfInBounds i true) (a.put oi.dst v) w) : wpAnyN P md ops Q S n (fuel + 1) listed a w := by
  constructor
  · intro h0
    rw [h0] at hr
    cases hr
  intro j hj
  by_cases hji : j = i
  · subst hji
    exact hy.wpOp hi hS ⟨fun _ => hS, H⟩
  have hjr := ready_mono hj hji
  match fuel, H with
  | 0, H =>
    rw [H.1] at hjr
    cases hjr
  | fuel + 1, H =>
    obtain ⟨hjun, oj, hoj, _⟩ := mem_ready.1 hj
    have hjn : j < n := Nat.lt_of_not_le fun hle => by
      obtain ⟨d, hd, hb, heq⟩ := hsink j oj hoj hle hji
      exact no_wait hr hj hoj hd hb heq
    refine wpOp_mono ?_ (wpOp_putIf hoj (he.apart j oj hoj hji hjun fun d hd hb => no_wait hr hj hoj hd hb) (fun cs b => hsel i oi cs b hi) (fun cs b => hsel j oj cs b hoj) hQ hy (H.2 j hjr))
    intro a' w' h3
    obtain ⟨hy', hS', hrest⟩ := h3
    refine ⟨hS', early_first hi hsel hQ hsink fuel _ a' w' (he.mark hjun) (ready_mono hr (Ne.symm hji)) hy' (hS' hjn) ?_⟩
    rw [Array.setIfInBounds_comm _ _ hji]
    exact hrest

/-- Do all from n on wait for i? -/
def sinkN (md : Region.Mode) (ops : Array Oper) (n i : Nat) : Bool := (List.range ops.size).all fun j => decide (j < n) || decide (j = i) || Region.waitsFor md ops j i
theorem sinkN_spec {i : Nat} (h : sinkN md ops n i = true) : ∀ j oj, ops[j]? = some oj → n ≤ j → j ≠ i → ∃ e ∈ oj.after, Region.binds md e = true ∧ e.on = i := by
  intro j oj hj hn hne
  have hlt : j < ops.size := (Array.getElem?_eq_some_iff.1 hj).1
  have h1 := List.all_eq_true.1 h j (List.mem_range.2 hlt)
  simp only [Bool.or_eq_true, decide_eq_true_eq] at h1
  rcases h1 with (h1 | h1) | h1
  · omega
  · exact absurd h1 hne
  · obtain ⟨o', ho', e, he, hb, heq⟩ := Region.waitsFor_spec h1
    rw [hj] at ho'
    cases ho'
    exact ⟨e, he, hb, heq⟩

theorem wpAnyN_take {i : Nat} {oi : Oper} {v : Value} {fuel : Nat} {listed : Array Bool} {a : Act} {w : World} (hi : ops[i]? = some oi)
    (hs : Region.noSelect ops = true) (hf : Region.free md ops listed i = true) (hr : (Region.ready md ops listed).contains i = true) (hk : sinkN md ops n i = true)
    (hQ : ∀ c a w, Q (.panic c) (a.put oi.dst v) w → Q (.panic c) a w) (hy : YieldsIf P ops S oi v a) (hS : S w)
    (h : wpAnyN P md ops Q S n fuel (listed.setIfInBounds i true) (a.put oi.dst v) w) : wpAnyN P md ops Q S n (fuel + 1) listed a w :=
  early_first hi (Region.noSelect_spec hs) hQ (sinkN_spec hk) fuel listed a w ⟨Region.free_spec hi hf⟩ (by simpa using hr) hy hS h
/-- One alone may come up. -/
theorem wpAnyN_one {i : Nat} {fuel : Nat} {listed : Array Bool} {a : Act} {w : World} (hr : Region.ready md ops listed = [i])
    (h : wpOp P ops Q i (fun a' w' => (i < n → S w') ∧ wpAnyN P md ops Q S n fuel (listed.setIfInBounds i true) a' w') a w) : wpAnyN P md ops Q S n (fuel + 1) listed a w :=
  ⟨fun h0 => (by rw [hr] at h0; cases h0), fun j hj => by
    rw [hr] at hj
    have : j = i := by simpa using hj
    subst this
    exact h⟩
/-- One alone may come up: run it. -/
theorem wpAnyN_step {i : Nat} {o : Oper} {fuel : Nat} {listed : Array Bool} {a : Act} {w : World} (hr : Region.ready md ops listed = [i]) (ho : ops[i]? = some o)
    (h : ∀ K' : Act → World → Prop, Shut (∀ a w, (i < n → S w) → wpAnyN P md ops Q S n fuel (listed.setIfInBounds i true) a w → K' a w) → if Region.wanted o (yielded ops a.tmps) = true then Oper.wp P o a w K' Q else K' (a.put o.dst undef) w) :
    wpAnyN P md ops Q S n (fuel + 1) listed a w :=
  wpAnyN_one hr (wpOp_step ho fun K' hK => h K' fun a w h1 h2 => hK a w ⟨h1, h2⟩)
theorem wpAnyN_done {listed : Array Bool} {a : Act} {w : World} (hr : Region.ready md ops listed = []) (h : Q .normal a w) : ∀ fuel, wpAnyN P md ops Q S n fuel listed a w
  | 0 => ⟨hr, h⟩
  | _ + 1 => ⟨fun _ => h, by rw [hr]; simp⟩
theorem wp_region_n {id : Nat} {a : Act} {w : World} (hm : P.follows .mixedOrders = true)
    (h : wpAnyN P .any ops Q S n ops.size (Array.replicate ops.size false) a w.drew) : (Code.region id ops true).wp P Q a w :=
  wp_region_any hm (wpAny_of_n _ _ _ _ h)
end
end Go.Proofs.YtplocldnklccfaaGreatDoor
