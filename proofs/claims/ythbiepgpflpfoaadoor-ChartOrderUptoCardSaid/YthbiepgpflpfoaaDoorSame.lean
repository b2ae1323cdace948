/- sameAccounts of two rows of accounts. -/
import Derived.Test.YthbiepgpflpfoaaDoorPlay
import Derived.Deep.QuietTactic
namespace Go.Proofs.YthbiepgpflpfoaaDoor
open Go.RowKit Go.Shelf
set_option linter.unusedVariables false
set_option linter.unusedSimpArgs false

/-- What a row of accounts gives to read. -/
structure Reads (w : World) (v : Value) (L : List Acct) : Prop where
  ex : ∃ A c, v = .slice A L.length c ∧ ∀ j (hj : j < L.length), ∃ b, A = some ⟨b, 0, none⟩ ∧ b < w.heap.size ∧
    w.cell? ⟨b, j * 4, none⟩ = some (.string L[j].name) ∧ w.cell? ⟨b, j * 4 + 1, none⟩ = some (.int .i64 L[j].typ) ∧ w.cell? ⟨b, j * 4 + 2, none⟩ = some (.int .i64 L[j].opened) ∧ w.cell? ⟨b, j * 4 + 3, none⟩ = some (.bool L[j].closed)
theorem AccRow.reads {B : Nat} {w : World} {L : List Acct} {v : Value} (h : AccRow B w L v) : Reads w v L := by
  cases h with
  | nil h => subst h; exact ⟨none, 0, rfl, fun j hj => by simp at hj⟩
  | row b c hb h => exact ⟨_, c, rfl, fun j hj => ⟨b, rfl, h.lt, h.c0 j hj, h.c1 j hj, h.c2 j hj, h.c3 j hj⟩⟩
theorem Reads.below {w w' : World} {v : Value} {L : List Acct} (h : Reads w v L) (hb : Below w.heap.size w w') : Reads w' v L := by
  obtain ⟨A, c, e, hA⟩ := h
  refine ⟨A, c, e, fun j hj => ?_⟩
  obtain ⟨b, e1, hl, h0, h1, h2, h3⟩ := hA j hj
  exact ⟨b, e1, Nat.lt_of_lt_of_le hl hb.size, (hb.cell (p := ⟨b, j * 4, none⟩) hl).trans h0, (hb.cell (p := ⟨b, j * 4 + 1, none⟩) hl).trans h1, (hb.cell (p := ⟨b, j * 4 + 2, none⟩) hl).trans h2, (hb.cell (p := ⟨b, j * 4 + 3, none⟩) hl).trans h3⟩

structure SameInv (w : World) (L M : List Acct) (i : Value) (wr : World) (k : Nat) : Prop where
  le : k ≤ L.length
  at_ : i = .int .i64 (k : Int)
  eq : ∀ j (h1 : j < L.length) (h2 : j < M.length), j < k → L[j] = M[j]
  bel : Below w.heap.size w wr

theorem acct_ext {a b : Acct} (h1 : a.name = b.name) (h2 : a.typ = b.typ) (h3 : a.opened = b.opened) (h4 : a.closed = b.closed) : a = b := by
  cases a; cases b; simp at *; exact ⟨h1, h2, h3, h4⟩

set_option maxHeartbeats 2000000 in
set_option maxRecDepth 100000 in
theorem same_any (w : World) (v u : Value) (L M : List Acct) (h1 : Reads w v L) (h2 : Reads w u M) (hl1 : L.length ≤ 100) :
    Calls Tryd.prog 14 #[v, u] w fun e w' => e = .returned (.bool (decide (L = M))) ∧ Below w.heap.size w w' := by
  have H1 := Lib.hid h1
  have H2 := Lib.hid h2
  obtain ⟨A, c, rfl, hA⟩ := h1
  obtain ⟨A', c', rfl, hA'⟩ := h2
  clear hA hA'
  by_cases hlen : L.length = M.length
  · obtain ⟨R, hR⟩ : ∃ R, R = decide (L = M) := ⟨_, rfl⟩
    rw [← hR]
    have HR := Lib.hid hR
    have HLEN := Lib.hid hlen
    have hM : M.length = L.length := hlen.symm
    clear hR hlen
    go_enter Tryd.func14, Tryd.ntmps14
    go_wp2
    go_loopw [5] (fun i wr => ∃ k, SameInv w L M i wr k) (fun i _ => L.length - (intOf i).toNat)
    case atStart => exact ⟨0, Nat.zero_le _, rfl, fun j _ _ h => by omega, Below.refl _ _⟩
    case round =>
      obtain ⟨k, hk, rfl, heq, hbel⟩ := hrel
      by_cases hlt : k < L.length
      · have hlt' : k < M.length := by have := HLEN.out; omega
        obtain ⟨A1, c1, e1, hA⟩ := (H1.out.below hbel).ex
        obtain ⟨A2, c2, e2, hA'⟩ := (H2.out.below hbel).ex
        obtain ⟨rfl, rfl⟩ : A = A1 ∧ c = c1 := by simpa using e1
        obtain ⟨rfl, rfl⟩ : A' = A2 ∧ c' = c2 := by simpa using (Value.slice.inj e2).imp id (fun h => h.2)
        clear e1 e2
        obtain ⟨b, rfl, hb, p0, p1, p2, p3⟩ := hA k hlt
        obtain ⟨b', rfl, hb', r0, r1, r2, r3⟩ := hA' k hlt'
        clear hA hA'
        have HEQ := Lib.hid heq
        clear heq
        obtain ⟨x, hx⟩ : ∃ x, x = L[k] := ⟨_, rfl⟩
        obtain ⟨y, hy⟩ : ∃ y, y = M[k] := ⟨_, rfl⟩
        rw [← hx] at p0 p1 p2 p3
        rw [← hy] at r0 r1 r2 r3
        have HX := Lib.hid hx
        have HY := Lib.hid hy
        clear hx hy
        by_cases hxy : x = y
        · subst hxy
          go_wp2
          go_quiet (fail)
          go_wp2
          go_roundw
          case rel => exact ⟨k + 1, by omega, by go_num, fun j j1 j2 hj => by
            by_cases e : j = k
            · subst e; rw [← HX.out, ← HY.out]
            · exact HEQ.out j j1 j2 (by omega), bel_drewN hbel _⟩
          case measure => simp [intOf]; omega
        · have hf : Hid (R = false) := by
            show R = false
            rw [HR.out, decide_eq_false_iff_not]
            intro e
            subst e
            exact hxy (HX.out.trans HY.out.symm)
          obtain ⟨xn, xt, xo, xc⟩ := x
          obtain ⟨yn, yt, yo, yc⟩ := y
          simp only at p0 p1 p2 p3 r0 r1 r2 r3
          clear HX HY HEQ
          by_cases en : xn = yn
          · subst en
            by_cases et : xt = yt
            · subst et
              by_cases eo : xo = yo
              · subst eo
                have ec : (xc == yc) = false := by
                  rw [beq_eq_false_iff_ne]
                  intro e
                  subst e
                  exact hxy rfl
                clear hxy
                go_wp2
                go_quiet (fail)
                go_wp2
                go_ret
                rw [hf.out]
                exact ⟨rfl, bel_drewN hbel _⟩
              · have ec : (xo == yo) = false := by rw [beq_eq_false_iff_ne]; exact eo
                clear hxy eo
                go_wp2
                go_quiet (fail)
                go_wp2
                go_ret
                rw [hf.out]
                exact ⟨rfl, bel_drewN hbel _⟩
            · have ec : (xt == yt) = false := by rw [beq_eq_false_iff_ne]; exact et
              clear hxy et
              go_wp2
              go_quiet (fail)
              go_wp2
              go_ret
              rw [hf.out]
              exact ⟨rfl, bel_drewN hbel _⟩
          · have ec : (xn.toList == yn.toList) = false := by
              rw [beq_eq_false_iff_ne]
              intro e
              exact en (ByteArray.ext (by simpa [ByteArray.toList_eq] using e))
            clear hxy en
            go_wp2
            go_quiet (fail)
            go_wp2
            go_ret
            rw [hf.out]
            exact ⟨rfl, bel_drewN hbel _⟩
      · have ht : Hid (R = true) := by
          show R = true
          rw [HR.out, decide_eq_true_iff]
          exact List.ext_getElem HLEN.out fun j j1 j2 => heq j j1 j2 (by omega)
        go_wp2
        go_ret
        rw [ht.out]
        exact ⟨rfl, hbel⟩
  · have hf : decide (L = M) = false := decide_eq_false (fun e => hlen (by rw [e]))
    rw [hf]
    have hne : ((L.length : Int) == (M.length : Int)) = false := by simpa using (by omega : ¬ (L.length : Int) = M.length)
    clear hlen hf
    go_enter Tryd.func14, Tryd.ntmps14
    go_wp2
    go_ret
    exact ⟨rfl, Below.refl _ _⟩
end Go.Proofs.YthbiepgpflpfoaaDoor
