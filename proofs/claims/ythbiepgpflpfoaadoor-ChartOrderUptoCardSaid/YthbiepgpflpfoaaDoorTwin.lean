/- Two charts side by side in memory. -/
import Derived.Test.YthbiepgpflpfoaaDoorFirst
import Derived.Test.YthbiepgpflpfoaaDoorFrom
namespace Go.Proofs.YthbiepgpflpfoaaDoor
open Go.RowKit Go.Shelf
set_option linter.unusedVariables false
set_option linter.unusedSimpArgs false

theorem CR.cut {w : World} {F : Nat → Prop} {cb mb : Nat} {L : List Acct} {rv : Value} {nb : ByteArray → Nat} {kv : ByteArray → Value} {ps : List (ByteArray × Value)}
    (h : CR w F cb L mb rv nb kv ps) : CR w (fun k => F k ∧ k < w.heap.size) cb L mb rv nb kv ps :=
  { h with
    fC := ⟨h.fC, heap_lt h.hC⟩
    fM := ⟨h.fM, h.hM.lt⟩
    fN := fun a ha => ⟨h.fN a ha, heap_lt (h.hN a ha)⟩
    fK := fun a ha k e => ⟨h.fK a ha k e, ((h.hK a ha).lt k e).2⟩
    fR := fun k e => ⟨h.fR k e, (h.hR.lt k e).2⟩ }
theorem ChartAt.cut {w : World} {F : Nat → Prop} {cb : Nat} {L : List Acct} (h : ChartAt w F cb L) : ChartAt w (fun k => F k ∧ k < w.heap.size) cb L := by
  obtain ⟨mb, rv, nb, kv, ps, h⟩ := h
  exact ⟨mb, rv, nb, kv, ps, h.cut⟩

set_option maxRecDepth 100000 in
theorem From_nil (w : World) : Calls Tryd.prog 17 #[.slice none 0 0] w fun e w' => ∃ cb F, e = .returned (.tuple #[ptrV cb, .int .i64 0]) ∧ ChartAt w' F cb [] ∧ (∀ x, F x → w.heap.size ≤ x) ∧ Below w.heap.size w w' := by
  have hnew := New_any w
  go_enter Tryd.func17, Tryd.ntmps17
  go_wp2_with (go_at_call 9; refine hnew.mono ?_; rintro e w1 ⟨rfl, hch, hs1, hb1⟩; have HCH := Lib.hid hch; clear hch)
  unfold ptrV
  refine wp_loop_rounds 1 ?_
  rw [rounds_succ]
  go_wp2
  refine bodyPost_ret (v := .tuple #[ptrV (w.heap.size + 1), .int .i64 0]) (by simp [results, Tryd.results17, go_sem, ptrV]) rfl ⟨_, _, rfl, HCH.out, fun x hx => hx.1, hb1⟩

theorem From_any {B : Nat} {w : World} {L : List Acct} {v : Value} (hr : AccRow B w L v) (hv : Valid L) :
    Calls Tryd.prog 17 #[v] w fun e w' => ∃ cb F, e = .returned (.tuple #[ptrV cb, .int .i64 0]) ∧ ChartAt w' F cb L ∧ (∀ x, F x → w.heap.size ≤ x) ∧ Below w.heap.size w w' := by
  cases hr with
  | nil h => subst h; exact From_nil w
  | row b c hb h => exact From_row b c L hv w h

/-- A row of accounts whose block is kept. -/
structure KReads (K : Nat → Prop) (w : World) (v : Value) (L : List Acct) : Prop where
  reads : Reads w v L
  kept : ∀ b n c, v = .slice (some ⟨b, 0, none⟩) n c → L = [] ∨ K b

theorem AccRow.kreads {B : Nat} {w : World} {L : List Acct} {v : Value} (h : AccRow B w L v) (K : Nat → Prop) (hK : ∀ x, B ≤ x → x < w.heap.size → K x) : KReads K w v L := by
  refine ⟨h.reads, fun b n c e => ?_⟩
  cases h with
  | nil h => exact .inl h
  | row b' c' hb h =>
    injection e with e _ _
    injection e with e
    injection e with e
    subst e
    exact .inr (hK _ hb h.lt)

theorem KReads.keep {K : Nat → Prop} {w w' : World} {v : Value} {L : List Acct} (h : KReads K w v L) (hs : w.heap.size ≤ w'.heap.size) (hk : ∀ x, K x → x < w.heap.size → w'.heap[x]? = w.heap[x]?) : KReads K w' v L := by
  refine ⟨?_, h.kept⟩
  obtain ⟨A, c, e, hA⟩ := h.reads
  refine ⟨A, c, e, fun j hj => ?_⟩
  obtain ⟨b, e1, hl, h0, h1, h2, h3⟩ := hA j hj
  have hb : w'.heap[b]? = w.heap[b]? := by
    rcases h.kept b L.length c (by rw [e, e1]) with hn | hKb
    · rw [hn] at hj; simp at hj
    · exact hk b hKb hl
  have hc : ∀ i, w'.cell? ⟨b, i, none⟩ = w.cell? ⟨b, i, none⟩ := fun i => by simp [World.cell?, hb]
  exact ⟨b, e1, Nat.lt_of_lt_of_le hl hs, (hc _).trans h0, (hc _).trans h1, (hc _).trans h2, (hc _).trans h3⟩
theorem KReads.mono {K K' : Nat → Prop} {w : World} {v : Value} {L : List Acct} (h : KReads K w v L) (hk : ∀ x, K x → K' x) : KReads K' w v L :=
  ⟨h.reads, fun b n c e => (h.kept b n c e).imp id (hk b)⟩
theorem KReads.below {K : Nat → Prop} {w w' : World} {v : Value} {L : List Acct} (h : KReads K w v L) (hb : Below w.heap.size w w') : KReads K w' v L :=
  h.keep hb.size fun x _ hx => hb.block x hx

/-- Two charts apart from one another, from what was there at first and from the kept blocks. -/
structure Twin (w wr : World) (K : Nat → Prop) (cb db : Nat) (L M : List Acct) : Prop where
  ex : ∃ Fc Fd, ChartAt wr Fc cb L ∧ ChartAt wr Fd db M ∧ (∀ x, Fc x → ¬ Fd x ∧ ¬ K x ∧ w.heap.size ≤ x ∧ x < wr.heap.size) ∧ (∀ x, Fd x → ¬ K x ∧ w.heap.size ≤ x ∧ x < wr.heap.size)
  kin : ∀ x, K x → x < wr.heap.size
  bel : Below w.heap.size w wr

theorem Twin.swap {w wr : World} {K : Nat → Prop} {cb db : Nat} {L M : List Acct} (h : Twin w wr K cb db L M) : Twin w wr K db cb M L := by
  obtain ⟨Fc, Fd, h1, h2, h3, h4⟩ := h.ex
  exact ⟨⟨Fd, Fc, h2, h1, fun x hx => ⟨fun hc => (h3 x hc).1 hx, h4 x hx⟩, fun x hx => (h3 x hx).2⟩, h.kin, h.bel⟩

theorem Twin.below {w wr w' : World} {K : Nat → Prop} {cb db : Nat} {L M : List Acct} (h : Twin w wr K cb db L M) (hb : Below wr.heap.size wr w') : Twin w w' (fun x => K x ∨ wr.heap.size ≤ x ∧ x < w'.heap.size) cb db L M := by
  obtain ⟨Fc, Fd, h1, h2, h3, h4⟩ := h.ex
  have hs := hb.size
  refine ⟨⟨Fc, Fd, h1.below hb, h2.below hb, fun x hx => ?_, fun x hx => ?_⟩, fun x hx => ?_, h.bel.trans (hb.mono h.bel.size)⟩
  · obtain ⟨a, b, c, d⟩ := h3 x hx
    exact ⟨a, fun hk => by rcases hk with hk | hk; exact b hk; omega, c, by omega⟩
  · obtain ⟨b, c, d⟩ := h4 x hx
    exact ⟨fun hk => by rcases hk with hk | hk; exact b hk; omega, c, by omega⟩
  · rcases hx with hx | hx
    · have := h.kin x hx; omega
    · exact hx.2
theorem Twin.forget {w wr : World} {K K' : Nat → Prop} {cb db : Nat} {L M : List Acct} (h : Twin w wr K cb db L M) (hk : ∀ x, K' x → K x) : Twin w wr K' cb db L M := by
  obtain ⟨Fc, Fd, h1, h2, h3, h4⟩ := h.ex
  exact ⟨⟨Fc, Fd, h1, h2, fun x hx => ⟨(h3 x hx).1, fun hk' => (h3 x hx).2.1 (hk x hk'), (h3 x hx).2.2⟩, fun x hx => ⟨fun hk' => (h4 x hx).1 (hk x hk'), (h4 x hx).2⟩⟩, fun x hx => h.kin x (hk x hx), h.bel⟩

theorem twin_acc {w wr : World} {K : Nat → Prop} {cb db : Nat} {L M : List Acct} (h : Twin w wr K cb db L M) (hv : Valid L) :
    Calls Tryd.prog 8 #[.pointer (some ⟨cb, 0, none⟩)] wr fun e w' => ∃ v, e = .returned v ∧ AccRow wr.heap.size w' L v ∧ Twin w w' (fun x => K x ∨ wr.heap.size ≤ x ∧ x < w'.heap.size) cb db L M ∧ Below wr.heap.size wr w' := by
  obtain ⟨Fc, Fd, h1, h2, h3, h4⟩ := h.ex
  refine (Accounts_any h1 hv).mono ?_
  rintro e w' ⟨v, he, hr, hb⟩
  exact ⟨v, he, hr, h.below hb, hb⟩

theorem twin_act {w wr : World} {K : Nat → Prop} {cb db : Nat} {L M : List Acct} (h : Twin w wr K cb db L M) (hv : Valid L) (who : Int) (a : ActV) (ask : ByteArray) (hsz : a.name.size ≤ 140737488355328) :
    Calls Tryd.prog 16 #[.pointer (some ⟨cb, 0, none⟩), actV who a ask] wr fun e w' => e = .returned (.int .i64 (actE L a)) ∧ Twin w w' K cb db (actL L a) M ∧ ∀ v R, KReads K wr v R → KReads K w' v R := by
  obtain ⟨Fc, Fd, h1, h2, h3, h4⟩ := h.ex
  refine (answer_any h1 hv who a ask hsz).mono ?_
  rintro e w' ⟨he, F', m1, m2, m3⟩
  have hs := m2.size
  refine ⟨he, ⟨⟨_, Fd, m1.cut, h2.ch m2 fun x hx hc => (h3 x hc).1 hx, ?_, ?_⟩, ?_, ?_⟩, fun v R hr => hr.keep hs fun x hk hx => m2.block x hx fun hc => (h3 x hc).2.1 hk⟩
  · rintro x ⟨hx, hl⟩
    rcases m3 x hx with hc | hc
    · obtain ⟨p, q, r, s⟩ := h3 x hc
      exact ⟨p, q, r, hl⟩
    · refine ⟨fun hd => by have := (h4 x hd).2.2; omega, fun hk => by have := h.kin x hk; omega, ?_, hl⟩
      have := h.bel.size; omega
  · intro x hx
    obtain ⟨p, q, r⟩ := h4 x hx
    exact ⟨p, q, by omega⟩
  · intro x hx
    have := h.kin x hx; omega
  · exact h.bel.trans (m2.toBelow h.bel.size fun x hx => (h3 x hx).2.2.1)
end Go.Proofs.YthbiepgpflpfoaaDoor
