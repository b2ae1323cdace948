/- Apply: an event that is taken. Printed by gen_apply2.py; Books that are told events, in plain words: what was taken, and what the statements ask; no program; Books that are told events: how they lie in memory; Apply: any event. -/
import Derived.Test.YtgocoofcelggcaaGreatDoorPack12
import Derived.Deep.Onto
namespace Go.Proofs.YtgocoofcelggcaaGreatDoor
open Go.RowKit
set_option linter.unusedVariables false
set_option linter.unusedSimpArgs false

theorem lines_cut {W : World} {R : Nat → Prop} {v : Value} {l : List LineV} (h : LinesAt W R v l) : LinesAt W (fun k => R k ∧ k < W.heap.size) v l := h.keep fun k hR hl => ⟨rfl, hR, hl⟩
theorem posts_len (rs : List PostV) : ∀ x ∈ rs.map encPost, x.length = 9 := fun x hx => by
  obtain ⟨r, _, rfl⟩ := List.mem_map.1 hx
  rfl
theorem posts_one (rs : List PostV) : ∀ x ∈ rs.map encPost, ∀ u ∈ x, u.oneCell' = true := fun x hx => by
  obtain ⟨r, _, rfl⟩ := List.mem_map.1 hx
  exact post_one r
theorem row_posts {W : World} {n : Nat} {v : Value} {rs : List PostV} (h : W.ownsRow n 39 9 v rs.length (rs.map encPost).flatten) : RowAt W (fun k => v.ownBlock = some k) 9 v (rs.map encPost) :=
  RowAt.of_own (B := n) (e := 39) (by rw [List.length_map]; exact h) (posts_len rs) fun _ e => e
theorem row_read {W : World} {n c : Nat} {A : Option Addr} {rs : List PostV} (h : W.ownsRow n 39 9 (.slice A rs.length c) rs.length (rs.map encPost).flatten) (j : Nat) (hj : j < rs.length) :
    ∃ ad, A = some ad ∧ ad.block < W.heap.size ∧ ∀ i u, (encPost rs[j])[i]? = some u → W.cell? ((ad.add (j * 9)).add i) = some u := by
  obtain ⟨A', c', hv, hx⟩ := row_posts h
  injection hv with h1 h2 h3
  subst h1
  obtain ⟨ad, e1, h1, _, h3⟩ := hx j (by rw [List.length_map]; exact hj)
  rw [List.getElem_map] at h3
  exact ⟨ad, e1, h1, h3⟩
theorem blk4 {W : World} {bb : Nat} {S : BookS} {p : Pl} (h : W.heap[bb]? = some (.cells (p.cells S) 78 (0, 0))) : W.cell? ⟨bb, 4, none⟩ = some p.rV := by rw [cell_of_blk h]; rfl
theorem book_nums {W : World} {F : Nat → Prop} {bb : Nat} {S : BookS} (h : BookAt W F bb S) : W.cell? ⟨bb, 0, none⟩ = some (.int .i64 S.events) ∧ W.frozen? ⟨bb, 0, none⟩ = false ∧ W.frozen? ⟨bb, 13, none⟩ = false := by
  obtain ⟨ρ, p, hp, _⟩ := h
  exact ⟨hp.c0, frozen_blk hp.head 0, frozen_blk hp.head 13⟩

structure ApplyPost (F : Nat → Prop) (bb : Nat) (S' : BookS) (rs : List PostV) (r : Int) (w : World) (en : Ending) (w' : World) : Prop where
  ex : ∃ rv F', en = .returned (.tuple #[rv, .int .i64 r]) ∧ w'.ownsRow w.heap.size 39 9 rv rs.length (rs.map encPost).flatten ∧ BookAt w' F' bb S' ∧ Ch F w w' ∧ (∀ k, F' k → F k ∨ (w.heap.size ≤ k ∧ k < w'.heap.size)) ∧ ∀ k, rv.ownBlock = some k → ¬ F' k

/-- What lies beside the books while Apply goes on. -/
structure Side (B b3 n3 : Nat) (e : EventV) (lv : Value) (kd : Bool) (fm fr fk : Nat) (R : Nat → Prop) (rv : Value) (rs : List PostV) (V : World) : Prop where
  ev : EvAt V B e lv
  act : V.heap[b3]? = some (.cells #[.bool kd, .func (.func fm) #[] #[], .func (.func fr) #[] #[], .func (.func fk) #[] #[]] 99 (0, 0))
  lines : LinesAt V R lv e.lines
  row : V.ownsRow n3 39 9 rv rs.length (rs.map encPost).flatten

section
variable {B b3 n3 : Nat} {e : EventV} {lv : Value} {kd : Bool} {fm fr fk : Nat} {R : Nat → Prop} {rv : Value} {rs : List PostV} {V V' : World}
theorem Side.keep (h : Side B b3 n3 e lv kd fm fr fk R rv rs V) (hk : ∀ k, k < V.heap.size → (k = B ∨ k = b3 ∨ R k ∨ rv.ownBlock = some k) → V'.heap[k]? = V.heap[k]?) : Side B b3 n3 e lv kd fm fr fk R rv rs V' :=
  ⟨⟨(hk _ (heap_lt h.ev.blk) (.inl rfl)).trans h.ev.blk⟩, (hk _ (heap_lt h.act) (.inr (.inl rfl))).trans h.act, h.lines.keep fun k hR hl => ⟨hk k hl (.inr (.inr (.inl hR))), hR⟩,
    ownsRow_keep h.row fun k e => hk k (h.row.lt k e).2 (.inr (.inr (.inr e)))⟩
theorem Side.ch (h : Side B b3 n3 e lv kd fm fr fk R rv rs V) {F : Nat → Prop} {n0 : Nat} (hc : Ch F V V') (hF : ∀ k, F k → k < n0) (hB : n0 ≤ B) (hb : n0 ≤ b3) (hn : n0 ≤ n3) (hR : ∀ k, R k → ¬ F k) : Side B b3 n3 e lv kd fm fr fk R rv rs V' :=
  h.keep fun k hl ho => hc.block k hl fun hf => by
    have := hF k hf
    rcases ho with rfl | rfl | ho | ho
    · omega
    · omega
    · exact hR k ho hf
    · have := (h.row.lt k ho).1; omega
theorem Side.below (h : Side B b3 n3 e lv kd fm fr fk R rv rs V) (hb : Below V.heap.size V V') : Side B b3 n3 e lv kd fm fr fk R rv rs V' := h.keep fun k hl _ => hb.block k hl
theorem Side.k0 (h : Side B b3 n3 e lv kd fm fr fk R rv rs V) : V.cell? ⟨b3, 0, none⟩ = some (.bool kd) := by rw [cell_of_blk h.act]; rfl
theorem Side.k3 (h : Side B b3 n3 e lv kd fm fr fk R rv rs V) : V.cell? ⟨b3, 3, none⟩ = some (.func (.func fk) #[] #[]) := by rw [cell_of_blk h.act]; rfl
end

/-- What the end of Apply leaves. -/
theorem apply_fin {w w5 w9 : World} {F F9 : Nat → Prop} {bb n3 : Nat} {S9 : BookS} {rv : Value} {rs : List PostV} (hF : ∀ k, F k → k < w.heap.size) (hb5 : Below w.heap.size w w5) (hn3 : w.heap.size ≤ n3)
    (hrow : w5.ownsRow n3 39 9 rv rs.length (rs.map encPost).flatten) (h9 : ApSt F w5 bb S9 w9 F9) : ApplyPost F bb S9 rs 0 w (.returned (.tuple #[rv, .int .i64 0])) w9 := by
  have hfar : ∀ k, rv.ownBlock = some k → w9.heap[k]? = w5.heap[k]? ∧ ¬ F9 k := fun k e => by
    have h1 := hrow.lt k e
    exact h9.far h1.2 fun hf => by have := hF k hf; omega
  have hs := hb5.size
  refine ⟨rv, F9, rfl, (ownsRow_keep hrow fun k e => (hfar k e).1).mono hn3, h9.book, (Ch.of_below hb5).trans' h9.ch, fun k hk => ?_, fun k e => (hfar k e).2⟩
  rcases h9.new k hk with h1 | h1
  · exact .inl h1
  · exact .inr ⟨by omega, h1.2⟩

/-- The head's numbers turn, the rest lies where it lay. -/
theorem nums_own {F : Nat → Prop} {w5 : World} {ρ : Nat → Nat} {bb : Nat} {S : BookS} {p : Pl} (hp : BookP w5 ρ bb S p) (hF : ∀ k, F k ↔ ρ k ≠ 0) (n t : Int) :
    BookP ((w5.setCell ⟨bb, 13, none⟩ (.int .i64 t)).setCell ⟨bb, 0, none⟩ (.int .i64 n)) ρ bb { S with events := n, turnover := t } p ∧ ApSt F w5 bb { S with events := n, turnover := t } ((w5.setCell ⟨bb, 13, none⟩ (.int .i64 t)).setCell ⟨bb, 0, none⟩ (.int .i64 n)) F := by
  have hb : F bb := (hF bb).2 (by have := hp.rH; omega)
  have hd := heap_setCell_same (i := 0) (heap_setCell_same (i := 13) hp.head (.int .i64 t)) (.int .i64 n)
  have h1 : BookP ((w5.setCell ⟨bb, 13, none⟩ (.int .i64 t)).setCell ⟨bb, 0, none⟩ (.int .i64 n)) ρ bb { S with events := n, turnover := t } p := hp.nums n S.lock t (by simp [World.setCell]) hd fun k hk hn => (Below.heap_setCell _ _ _ _ hn).trans (Below.heap_setCell _ _ _ _ hn)
  exact ⟨h1, ⟨ρ, p, h1, hF⟩, ((Ch.refl F w5).setCell (.inl hb) _).setCell (.inl hb) _, fun k hk => .inl hk⟩

/-- A step of the books' cells and rows that the walk makes by itself. -/
theorem ApSt.own {F F1 F2 : Nat → Prop} {w5 V W : World} {bb : Nat} {S1 S2 : BookS} (h : ApSt F w5 bb S1 V F1) (hb : BookAt W F2 bb S2) (hc : Ch F1 V W) (hn : ∀ k, F2 k → F1 k ∨ (V.heap.size ≤ k ∧ k < W.heap.size)) : ApSt F w5 bb S2 W F2 := by
  have hs1 := h.ch.size
  have hs2 := hc.size
  refine ⟨hb, h.ch.trans hc fun i hi => ?_, fun k hk => ?_⟩
  · rcases h.new i hi with h4 | h4
    · exact .inl h4
    · exact .inr h4.1
  · rcases hn k hk with h4 | h4
    · rcases h.new k h4 with h5 | h5
      · exact .inl h5
      · exact .inr ⟨h5.1, by omega⟩
    · exact .inr ⟨by omega, h4.2⟩

/-- A row that is counted stays within an amount. -/
theorem count_fits {S : BookS} {rs : List PostV} (ht : OkS S) (hg : S.turnover + sumAbs rs ≤ maxA) (k : Nat) (hk : k < rs.length) :
    -maxA ≤ ownF (S.rows ++ rs.take k) rs[k].account + rs[k].amount ∧ ownF (S.rows ++ rs.take k) rs[k].account + rs[k].amount ≤ maxA := by
  have h1 : ownF (S.rows ++ rs.take (k + 1)) rs[k].account = ownF (S.rows ++ rs.take k) rs[k].account + rs[k].amount := by
    rw [List.take_succ_eq_append_getElem hk, ← List.append_assoc, ownF_append _ [rs[k]], ownF_one]
    simp
  have h2 := ownF_bound (S.rows ++ rs.take (k + 1)) rs[k].account
  have h3 : sumAbs (S.rows ++ rs.take (k + 1)) ≤ maxA := by
    rw [sumAbs_append, ht.turn]
    have h4 : sumAbs rs = sumAbs (rs.take (k + 1)) + sumAbs (rs.drop (k + 1)) := by rw [← sumAbs_append, List.take_append_drop]
    have h5 := sumAbs_nonneg (rs.drop (k + 1))
    omega
  omega

section
variable {w : World} {F : Nat → Prop} {bb : Nat} {S : BookS} {e : EventV} {lv : Value} {R : Nat → Prop}

set_option maxRecDepth 100000 in
set_option maxHeartbeats 8000000 in
theorem apply_yes (h : BookAt w F bb S) (ht : OkT S) (hz : SmallEv e) (hin : InEv e) (hL : LinesAt w R lv e.lines) (hR : ∀ k, R k → ¬ F k) (hk : Taken S e)
    (hchk : Calls Tryz.prog 21 #[ptrV bb, evV e lv] (w.alloc (.cells (evCs e lv) 25)) fun en w' => en = .returned (.int .i64 0) ∧ Below (w.alloc (.cells (evCs e lv) 25)).heap.size (w.alloc (.cells (evCs e lv) 25)) w') :
    Calls Tryz.prog 22 #[ptrV bb, evV e lv] w (ApplyPost F bb (keepS (tookS S e) e) (rowsOf S e) 0 w) := by
  obtain ⟨i0, hi, hz0, hz1, hz2⟩ := info_parts info_post
  have hb0 := bel1 w (.cells (evCs e lv) 25)
  have hn0 := World.alloc_heap_new w (.cells (evCs e lv) 25)
  have h0 := h.below hb0
  have hL0 := hL.below hb0
  have hFl := h.lt
  have hbl : bb < w.heap.size := by obtain ⟨ρ, p, hp, _⟩ := h; exact heap_lt hp.head
  obtain ⟨W0, hW0⟩ : ∃ W0, w.alloc (.cells (evCs e lv) 25) = W0 := ⟨_, rfl⟩
  rw [hW0] at hb0 hn0 h0 hL0 hchk
  obtain ⟨kd, fm, fr, fk, hact, hkeep⟩ := act_keep h0 ht hz hin hL0 hk
  have hrf := rows_facts ht hin hk.fields
  have hev : ∀ W, Below W0.heap.size W0 W → EvAt W w.heap.size e lv := fun W hb => ⟨(hb.block _ (heap_lt hn0)).trans hn0⟩
  obtain ⟨t, htt⟩ : ∃ t, t = S.turnover + sumAbs (rowsOf S e) := ⟨_, rfl⟩
  have hgt : grownF S.turnover (rowsOf S e) = some t := by unfold grownF; rw [if_pos hk.grown, htt]
  have hgr : ∀ W v B, Below W0.heap.size W0 W → W.ownsRow B 39 9 v (rowsOf S e).length ((rowsOf S e).map encPost).flatten → Calls Tryz.prog 40 #[ptrV bb, v] W fun en w' => en = .returned (.tuple #[.int .i64 t, .bool true]) ∧ Below W.heap.size W w' := fun W v B hb hv => by
    have := grown_own (h0.below hb) ht hin hk.fields v B hv
    rw [hgt] at this
    exact this
  have hacts := hact.acts
  have her := hact.er
  have hek := hact.ek
  have hkd := hact.keyed
  have hro := hact.rows hk.refuse
  have hev0 := ht.ok.ev0
  have hev1 := hk.many
  have hwr : wrap64 (S.events + 1) = S.events + 1 := by unfold wrap64; omega
  have hwr' : IntKind.i64.wrap (S.events + 1) = S.events + 1 := IntWalk.i64_in _ (by omega)
  have hw0s : w.heap.size ≤ W0.heap.size := hb0.size
  have HB0 := Lib.hid hb0
  have HBK := Lib.hid h0
  have HL0 := Lib.hid hL0
  have HKEEP := Lib.hid hkeep
  have HRF := Lib.hid hrf
  have HEV := Lib.hid hev
  have HTT := Lib.hid htt
  have HGR := Lib.hid hgr
  have HACT := Lib.hid hacts
  have HRO := Lib.hid hro
  have HKD := Lib.hid hkd
  have HT := Lib.hid ht
  have HR := Lib.hid hR
  have HK := Lib.hid hk
  have HFL := Lib.hid hFl
  have HW0 := Lib.hid hW0
  have hrl : (rowsOf S e).length ≤ 12 := hrf.1
  obtain ⟨rs, hrs⟩ : ∃ rs, rs = rowsOf S e := ⟨_, rfl⟩
  have HRS := Lib.hid hrs
  have hkl : S.keys.length ≤ 1000 := by have := ht.ok.keysLe; omega
  have hrwl : S.rows.length ≤ 12000 := by have := ht.ok.rowsLe; omega
  rw [← hrs] at hrl
  unfold evCs at HW0
  unfold evV ptrV at hchk
  unfold ptrV evV
  clear h ht hz hin hL hR hk hb0 hn0 h0 hL0 hFl hact hkeep hrf hev hgt hgr hacts hro htt hkd hW0 hrs
  cases kd with
  | false =>
    go_enter Tryz.func22, Tryz.ntmps22
    go_wp2_with (first
      | (go_at_call 21; rw [HW0.out]; refine hchk.mono ?_; rintro en w1 ⟨rfl, hb1⟩; have HB1 := Lib.hid hb1; have e0 := (HEV.out w1 hb1).e0; clear hchk hb1)
      | (go_at_call 39; refine (HACT.out w1).mono ?_; rintro en w2 ⟨rfl, hb2⟩; have hB2 := HB1.out.trans (hb2.mono HB1.out.size); have hB3 := hB2.alloc hB2.size (.cells #[.bool false, .func (.func fm) #[] #[], .func (.func fr) #[] #[], .func (.func fk) #[] #[]] 99); have hk3 := World.alloc_heap_new w2 (.cells #[.bool false, .func (.func fm) #[] #[], .func (.func fr) #[] #[], .func (.func fk) #[] #[]] 99); have hrow := HRO.out _ w.heap.size hB3 (HEV.out _ hB3); have HB3 := Lib.hid hB3; have HK3 := Lib.hid hk3; unfold ptrV at hrow; have hs2 := Nat.le_trans hw0s hB2.size; clear hb2 hB2 hB3 hk3 e0)
      | (refine hrow.mono ?_; rintro en w4 ⟨rv, rfl, hown, hb4⟩; have hB4 := HB3.out.trans (hb4.mono HB3.out.size); have hgw := HGR.out w4 rv _ hB4 hown; rw [← HRS.out] at hown; have hown := hown.mono (base' := w2.heap.size) (by simp); have hsd : Side w.heap.size w2.heap.size w2.heap.size e lv false fm fr fk (fun k => R k ∧ k < W0.heap.size) rv rs w4 := ⟨HEV.out w4 hB4, (hb4.block _ (heap_lt HK3.out)).trans HK3.out, (lines_cut HL0.out).below hB4, hown⟩; obtain ⟨A, c, hv⟩ := own_form hown; have HB4 := Lib.hid hB4; have HSD := Lib.hid hsd; have HN := Lib.hid (NilOk.own hown); subst hv; unfold ptrV at hgw; have hs4 := hb4.size; rw [World.size_alloc] at hs4; clear hrow hb4 hB4 hsd hown)
      | (go_at_call 40; refine hgw.mono ?_; rintro en w5 ⟨rfl, hb5⟩; have hB5 := HB4.out.trans (hb5.mono HB4.out.size); have hsd := HSD.out.below hb5; have hs5 := hb5.size; have hs05 := hB5.size; have hbk := HBK.out.below hB5; obtain ⟨ρ, p, hp5, hF5⟩ := hbk; have z0 := hp5.c0; have z13 := hp5.c13; have f0 := frozen_blk hp5.head 0; have f13 := frozen_blk hp5.head 13; have k0 := hsd.k0; have hnb : ¬ (w2.heap.size = bb) := (by omega); have hnb' : ¬ (bb = w2.heap.size) := (by omega); have hna : ¬ (w.heap.size = bb) := (by omega); have hna' : ¬ (bb = w.heap.size) := (by omega); have hnm := nums_own hp5 hF5 (S.events + 1) t; have HS5 := Lib.hid hsd; have HB5 := Lib.hid (HB0.out.trans (hB5.mono hw0s)); have r4 := hp5.c4; have f4 := frozen_blk hp5.head 4; have HRW := Lib.hid (row_posts (hsd.ch (n0 := w.heap.size) hnm.2.ch HFL.out (Nat.le_refl _) (by omega) (by omega) (fun k hk => HR.out k hk.1)).row); have HNM := Lib.hid hnm; clear hgw hb5 HSD HB4 hB5 hsd hp5 hnm)
      | (at_builtin; refine wpList_append_row rfl _ _ 29 rfl 0 39 i0 (.agg #[.int .i64 0, .int .i64 0, .int .i64 0, .int .i64 0, .string ByteArray.empty, .string ByteArray.empty, .int .i64 0, .string ByteArray.empty, .string ByteArray.empty]) 9 104 Tryz.underlying29 hi hz0 hz1 hz2 rfl (by decide) _ _ _ rfl HNM.out.1.rows.own (.slice A rs.length c) (rs.map encPost) rfl HRW.out HN.out ?l1 ?l2 ?l3 ?l4 (Nat.zero_le _) ?_))
    case l1 => exact posts_len rs
    case l2 => exact posts_one rs
    case l3 => (try rw [List.length_map]); show S.rows.length + rs.length ≤ _; unfold maxLen; omega
    case l4 => (try rw [List.length_map]); show (S.rows.length + rs.length) * 104 ≤ _; omega
    have HP := Lib.hid HNM.out.1
    have HF2 := Lib.hid hF5
    have HA := Lib.hid HNM.out.2
    have HH := Lib.hid HNM.out.1.head
    have hVs : (((w5.setCell ⟨bb, 13, none⟩ (.int .i64 t)).setCell ⟨bb, 0, none⟩ (.int .i64 (S.events + 1)))).heap.size = w5.heap.size := by simp [World.setCell]
    generalize ((w5.setCell ⟨bb, 13, none⟩ (.int .i64 t)).setCell ⟨bb, 0, none⟩ (.int .i64 (S.events + 1))) = V at HP HA HH HRW HNM hVs ⊢
    clear z0 z13 f0 f13 k0 hnb hnb' hna hna' r4 f4 HNM hF5
    intro v' w7 hown7 hgrow hat
    have hown7 : w7.ownsRow 0 39 9 v' (S.rows.length + rs.length) ((S.rows.map encPost).flatten ++ (rs.map encPost).flatten) := by simpa using hown7
    obtain ⟨vA, vc, hvf⟩ := own_form hown7
    subst hvf
    have hkb : ∀ k, p.rV.ownBlock = some k → ρ k = 5 := HP.out.rows.role
    have hrb := HP.out.rH
    have hbV : bb < V.heap.size := heap_lt HH.out
    have hg : ∀ k, (Value.slice vA (S.rows.length + rs.length) vc).ownBlock = some k → ρ k = 5 ∨ V.heap.size ≤ k := fun k hk => by
      rcases hat with hat | hat
      · exact .inl (hkb k (hat ▸ hk))
      · right; rw [hat] at hk; injection hk with hk; omega
    have hbk7 : ∀ k, k < V.heap.size → p.rV.ownBlock ≠ some k → w7.heap[k]? = V.heap[k]? := fun k hk hn => hgrow.block k hk fun e => hn e.symm
    have hH7 := (hbk7 bb hbV fun e => by have := hkb bb e; omega).trans HH.out
    have f7 := frozen_blk hH7 4
    have b7 := blk4 hH7
    have hs7 : V.heap.size ≤ w7.heap.size := hgrow.size
    have H7 := Lib.hid (And.intro hown7 (And.intro hgrow hbk7))
    have HG := Lib.hid hg
    clear hown7 hgrow hat hg hbk7
    (try clear b4 f4)
    go_wp2
    have hH8 := heap_setCell_same (i := 4) hH7 (Value.slice vA (S.rows.length + rs.length) vc)
    obtain ⟨hown7, hgrow, hbk7⟩ := H7.out
    have hc8 := ((Ch.refl F V).grown hgrow fun k hk => .inl ((HF2.out k).2 (by have := hkb k hk; omega))).setCell (p := ⟨bb, 4, none⟩) (.inl ((HF2.out bb).2 (by omega))) (Value.slice vA (S.rows.length + rs.length) vc)
    have hk8 : ∀ k, k < V.heap.size → k ≠ bb → p.rV.ownBlock ≠ some k → (w7.setCell ⟨bb, 4, none⟩ (Value.slice vA (S.rows.length + rs.length) vc)).heap[k]? = V.heap[k]? := fun k hk hn hr => (Below.heap_setCell _ _ _ _ hn).trans (hbk7 k hk hr)
    have hown8 := ownsRow_keep (w' := w7.setCell ⟨bb, 4, none⟩ (Value.slice vA (S.rows.length + rs.length) vc)) hown7 fun k hk => Below.heap_setCell _ _ _ _ fun e => by subst e; rcases HG.out _ hk with h1 | h1 <;> omega
    have hs8 : w7.heap.size = (w7.setCell ⟨bb, 4, none⟩ (Value.slice vA (S.rows.length + rs.length) vc)).heap.size := by simp [World.setCell]
    generalize w7.setCell ⟨bb, 4, none⟩ (Value.slice vA (S.rows.length + rs.length) vc) = W8 at hH8 hc8 hk8 hown8 hs8 ⊢
    clear hown7 hgrow hbk7 H7 hH7 f7 b7
    obtain ⟨po0, hO0, hIO0⟩ := HP.out.own.ex
    obtain ⟨pl0, hL0', hIL0⟩ := HP.out.last.ex
    have hro := HP.out.own.role
    have hrl' := HP.out.last.role
    have hO8 := hO0.keep (hk8 _ hO0.lt (fun e => by rw [e] at hro; omega) fun e => by have := hkb _ e; omega)
    have hL8 := hL0'.keep (hk8 _ hL0'.lt (fun e => by rw [e] at hrl'; omega) fun e => by have := hkb _ e; omega)
    have hmm : ∀ k, k = p.mO ∨ k = p.mL → F k := fun k hk => (HF2.out k).2 (by rcases hk with rfl | rfl <;> omega)
    have hn1 : bb ≠ p.mO := fun e => by rw [← e] at hro; omega
    have hn2 : bb ≠ p.mL := fun e => by rw [← e] at hrl'; omega
    have hn3 : p.mO ≠ p.mL := fun e => by rw [e] at hro; omega
    have hcr : ∀ W, Ch (fun k => k = p.mO ∨ k = p.mL) W8 W → Ch F V W := fun W hc => hc8.trans hc fun i hi => .inl (hmm i hi)
    have hsW : ∀ W, Ch (fun k => k = p.mO ∨ k = p.mL) W8 W → Side w.heap.size w2.heap.size w2.heap.size e lv false fm fr fk (fun k => R k ∧ k < W0.heap.size) (.slice A rs.length c) rs W := fun W hc =>
      HS5.out.ch (n0 := w.heap.size) (HA.out.ch.trans (hcr W hc) fun i hi => (HA.out.new i hi).imp id And.left) HFL.out (Nat.le_refl _) (by omega) (by omega) fun k hk => HR.out k hk.1
    have hrd : ∀ W, Ch (fun k => k = p.mO ∨ k = p.mL) W8 W → ∀ j (hj : j < rs.length), ∃ ad, A = some ad ∧ ad.block < W.heap.size ∧ ∀ i u, (encPost rs[j])[i]? = some u → W.cell? ((ad.add (j * 9)).add i) = some u := fun W hc => row_read (hsW W hc).row
    have hHr : ∀ W, Ch (fun k => k = p.mO ∨ k = p.mL) W8 W → W.heap[bb]? = some (.cells ({ p with rV := (Value.slice vA (S.rows.length + rs.length) vc) }.cells { S with events := S.events + 1, turnover := t }) 78 (0, 0)) := fun W hc => (hc.block bb (heap_lt hH8) (fun e => by rcases e with e | e; exact hn1 e; exact hn2 e)).trans hH8
    have HSW := Lib.hid hsW
    have HRD := Lib.hid hrd
    have HHR := Lib.hid hHr
    have HCR := Lib.hid hcr
    have HK8 := Lib.hid hk8
    have HO8 := Lib.hid hown8
    have HM := Lib.hid hmm
    have hIO8 : OwnI (S.rows ++ rs.take 0) po0 := by simpa using hIO0
    have hIL8 : LastI (S.rows ++ rs.take 0) pl0 := by simpa using hIL0
    have HST := Lib.hid (And.intro (And.intro hO8 hIO8) (And.intro hL8 hIL8))
    have hs68 : V.heap.size ≤ W8.heap.size := by omega
    clear hH8 hc8 hk8 hown8 hs8 hO0 hIO0 hL0' hIL0 hO8 hL8 hcr hsW hrd hHr hmm hIO8 hIL8 hs7
    go_loopw [57] (fun i wr => ∃ k, CountInv W8 p.mO p.mL S.rows rs i wr k) (fun i _ => rs.length - (intOf i).toNat)
    case atStart => exact ⟨0, Nat.zero_le _, rfl, ⟨po0, HST.out.1.1, HST.out.1.2⟩, ⟨pl0, HST.out.2.1, HST.out.2.2⟩, Ch.refl _ _⟩
    case round =>
      obtain ⟨k, hk, rfl, ⟨po, hO, hIO⟩, ⟨pl, hL, hIL⟩, hch⟩ := hrel
      by_cases hlt : k < rs.length
      · obtain ⟨ad, rfl, hab, hcw⟩ := HRD.out wr hch k hlt
        have hfit := count_fits HT.out.ok (by rw [HRS.out]; exact HK.out.grown) k hlt
        have hinv : CountInv W8 p.mO p.mL S.rows rs (.int .i64 (k : Int)) wr k := ⟨hk, rfl, ⟨po, hO, hIO⟩, ⟨pl, hL, hIL⟩, hch⟩
        obtain ⟨r, hr⟩ : ∃ r, r = rs[k] := ⟨_, rfl⟩
        have hcnt := count_any (w := wr.alloc (.cells (encPost r).toArray 39)) ((Below.heap_alloc _ _ _ (heap_lt (HHR.out wr hch))).trans (HHR.out wr hch)) (hO.keep (Below.heap_alloc _ _ _ hO.lt)) (hL.keep (Below.heap_alloc _ _ _ hL.lt)) hn1 hn2 hn3 r _ _ (hIO.get r.account) (hIL.get r.account) (by rw [hr]; exact hfit)
        rw [← hr] at hcw
        have c0 : wr.cell? (ad.add (k * 9)) = some (.int .i64 r.seq) := hcw 0 _ rfl
        have c1 : wr.cell? ⟨(ad.add (k * 9)).block, (ad.add (k * 9)).off + 1, none⟩ = some (.int .i64 r.line) := hcw 1 _ rfl
        have c2 : wr.cell? ⟨(ad.add (k * 9)).block, (ad.add (k * 9)).off + 2, none⟩ = some (.int .i64 r.day) := hcw 2 _ rfl
        have c3 : wr.cell? ⟨(ad.add (k * 9)).block, (ad.add (k * 9)).off + 3, none⟩ = some (.int .i64 r.kind) := hcw 3 _ rfl
        have c4 : wr.cell? ⟨(ad.add (k * 9)).block, (ad.add (k * 9)).off + 4, none⟩ = some (.string r.key) := hcw 4 _ rfl
        have c5 : wr.cell? ⟨(ad.add (k * 9)).block, (ad.add (k * 9)).off + 5, none⟩ = some (.string r.account) := hcw 5 _ rfl
        have c6 : wr.cell? ⟨(ad.add (k * 9)).block, (ad.add (k * 9)).off + 6, none⟩ = some (.int .i64 r.amount) := hcw 6 _ rfl
        have c7 : wr.cell? ⟨(ad.add (k * 9)).block, (ad.add (k * 9)).off + 7, none⟩ = some (.string r.tag) := hcw 7 _ rfl
        have c8 : wr.cell? ⟨(ad.add (k * 9)).block, (ad.add (k * 9)).off + 8, none⟩ = some (.string r.memo) := hcw 8 _ rfl
        have HI := Lib.hid hinv
        have HIO := Lib.hid hIO
        have HIL := Lib.hid hIL
        have HRR := Lib.hid hr
        unfold ptrV at hcnt
        simp only [encPost] at hcnt
        clear hinv hIO hIL hO hL hch hcw hfit hr
        go_wp2_with (go_at_call 42; refine hcnt.mono ?_; rintro en w9 hce; obtain rfl := hce.ret; have HCE := Lib.hid hce; clear hce hcnt)
        go_roundw
        case rel =>
          have hce := HCE.out
          have hr := HRR.out
          subst hr
          have hst := HI.out.step (w' := w9) (e := .returned (.tuple #[])) hlt HIO.out HIL.out ⟨rfl, hce.own, hce.last, ((Ch.refl _ wr).alloc _).trans' hce.ch⟩
          exact ⟨k + 1, hst.le, by go_num, hst.own, hst.last, hst.ch⟩
        case measure => simp [intOf]; omega
      · obtain rfl : k = rs.length := by omega
        rw [List.take_length] at hIO hIL
        have hswr := HSW.out wr hch
        obtain ⟨ρ', hbp, hnew⟩ := HP.out.counted rs (W0 := W8) HG.out (by have := hch.size; omega) (HHR.out wr hch) (fun k hk1 hk2 hk3 hk4 hk5 => (hch.block k (by omega) (fun e => by rcases e with e | e; exact hk4 e; exact hk5 e)).trans (HK8.out k hk1 hk2 hk3))
          (ownsRow_keep HO8.out fun k hk1 => hch.block k (HO8.out.lt k hk1).2 fun e => by have hl1 := hO.lt; rcases HG.out k hk1 with h1 | h1 <;> rcases e with e | e <;> subst e <;> first | omega | (have := HP.out.lt p.mO (by omega); have := HP.out.lt p.mL (by omega); omega)) hO hIO hL hIL
        have hS4 : { { S with events := S.events + 1, turnover := t } with rows := S.rows ++ rs } = tookS S e := by
          unfold tookS
          have htt := HTT.out
          rw [← HRS.out] at htt
          rw [HKD.out, ← HRS.out, ← htt]
          first | rfl | simp
        have hbp' : BookAt wr (fun k => ρ' k ≠ 0) bb (tookS S e) := ⟨ρ', _, hS4 ▸ hbp, fun k => Iff.rfl⟩
        have ha4 := HA.out.own hbp' (HCR.out wr hch) fun k hk1 => by
          rcases hnew k hk1 with h1 | h1
          · exact .inl ((HF2.out k).2 h1)
          · exact .inr ⟨h1.1, h1.2.1⟩
        have k3 := hswr.k3
        have hkp := HKEEP.out (fun k => R k ∧ k < W0.heap.size) wr _ w.heap.size ha4.book hswr.ev (ha4.far (by have := HB5.out.size; have := heap_lt HS5.out.ev.blk; omega) (fun hf => Nat.lt_irrefl _ (HFL.out _ hf))).2 hswr.lines fun k hk1 => (ha4.far (by have := hk1.2; omega) (HR.out k hk1.1)).2
        have HA4 := Lib.hid ha4
        unfold ptrV at hkp
        clear hswr hbp hbp' ha4 hO hL hIO hIL hch hnew
        go_wp2_with (refine hkp.mono ?_; rintro en w9 hp9; obtain rfl := hp9.ret; obtain ⟨F5, ha5⟩ := HA4.out.step hp9; have HA5 := Lib.hid ha5; clear hp9 ha5 hkp)
        go_ret2
        rw [← HRS.out]
        exact apply_fin HFL.out HB5.out (by omega) HS5.out.row HA5.out
  | true =>
    go_enter Tryz.func22, Tryz.ntmps22
    go_wp2_with (first
      | (go_at_call 21; rw [HW0.out]; refine hchk.mono ?_; rintro en w1 ⟨rfl, hb1⟩; have HB1 := Lib.hid hb1; have e0 := (HEV.out w1 hb1).e0; clear hchk hb1)
      | (go_at_call 39; refine (HACT.out w1).mono ?_; rintro en w2 ⟨rfl, hb2⟩; have hB2 := HB1.out.trans (hb2.mono HB1.out.size); have hB3 := hB2.alloc hB2.size (.cells #[.bool true, .func (.func fm) #[] #[], .func (.func fr) #[] #[], .func (.func fk) #[] #[]] 99); have hk3 := World.alloc_heap_new w2 (.cells #[.bool true, .func (.func fm) #[] #[], .func (.func fr) #[] #[], .func (.func fk) #[] #[]] 99); have hrow := HRO.out _ w.heap.size hB3 (HEV.out _ hB3); have HB3 := Lib.hid hB3; have HK3 := Lib.hid hk3; unfold ptrV at hrow; have hs2 := Nat.le_trans hw0s hB2.size; clear hb2 hB2 hB3 hk3 e0)
      | (refine hrow.mono ?_; rintro en w4 ⟨rv, rfl, hown, hb4⟩; have hB4 := HB3.out.trans (hb4.mono HB3.out.size); have hgw := HGR.out w4 rv _ hB4 hown; rw [← HRS.out] at hown; have hown := hown.mono (base' := w2.heap.size) (by simp); have hsd : Side w.heap.size w2.heap.size w2.heap.size e lv true fm fr fk (fun k => R k ∧ k < W0.heap.size) rv rs w4 := ⟨HEV.out w4 hB4, (hb4.block _ (heap_lt HK3.out)).trans HK3.out, (lines_cut HL0.out).below hB4, hown⟩; obtain ⟨A, c, hv⟩ := own_form hown; have HB4 := Lib.hid hB4; have HSD := Lib.hid hsd; have HN := Lib.hid (NilOk.own hown); subst hv; unfold ptrV at hgw; have hs4 := hb4.size; rw [World.size_alloc] at hs4; clear hrow hb4 hB4 hsd hown)
      | (go_at_call 40; refine hgw.mono ?_; rintro en w5 ⟨rfl, hb5⟩; have hB5 := HB4.out.trans (hb5.mono HB4.out.size); have hsd := HSD.out.below hb5; have hs5 := hb5.size; have hs05 := hB5.size; have hbk := HBK.out.below hB5; obtain ⟨ρ5, p5, hp5, hF5⟩ := hbk; have z0 := hp5.c0; have z13 := hp5.c13; have f0 := frozen_blk hp5.head 0; have f13 := frozen_blk hp5.head 13; have k0 := hsd.k0; have hnb : ¬ (w2.heap.size = bb) := (by omega); have hnb' : ¬ (bb = w2.heap.size) := (by omega); have hna : ¬ (w.heap.size = bb) := (by omega); have hna' : ¬ (bb = w.heap.size) := (by omega); have hnm := nums_own hp5 hF5 (S.events + 1) t; have HS5 := Lib.hid hsd; have HB5 := Lib.hid (HB0.out.trans (hB5.mono hw0s)); have s2 := hsd.ev.e2; have HNM := Lib.hid hnm; clear hgw hb5 HSD HB4 hB5 hsd hp5 hnm)
      | (go_at_call 41; refine (learn_any HNM.out.2.book (show S.keys.length ≤ 1000 from hkl) e.key).mono ?_; rintro en w6 hp6; obtain rfl := hp6.ret; obtain ⟨F3, ha⟩ := HNM.out.2.step hp6; have hsV := HS5.out.ch (n0 := w.heap.size) ha.ch HFL.out (Nat.le_refl _) (by omega) (by omega) (fun k hk => HR.out k hk.1); obtain ⟨ρ, p, hp, hF2⟩ := ha.book; have hH := hp.head; have b4 := blk4 hH; have f4 := frozen_blk hH 4; have HP := Lib.hid hp; have HF2 := Lib.hid hF2; have HA := Lib.hid ha; have HRW := Lib.hid (row_posts hsV.row); have HH := Lib.hid hH; clear hp6 s2 z0 z13 f0 f13 k0 hnb hnb' hna hna' hp hF2 ha hsV hH)
      | (at_builtin; refine wpList_append_row rfl _ _ 29 rfl 0 39 i0 (.agg #[.int .i64 0, .int .i64 0, .int .i64 0, .int .i64 0, .string ByteArray.empty, .string ByteArray.empty, .int .i64 0, .string ByteArray.empty, .string ByteArray.empty]) 9 104 Tryz.underlying29 hi hz0 hz1 hz2 rfl (by decide) _ _ _ rfl HP.out.rows.own (.slice A rs.length c) (rs.map encPost) rfl HRW.out HN.out ?l1 ?l2 ?l3 ?l4 (Nat.zero_le _) ?_))
    case l1 => exact posts_len rs
    case l2 => exact posts_one rs
    case l3 => (try rw [List.length_map]); show S.rows.length + rs.length ≤ _; unfold maxLen; omega
    case l4 => (try rw [List.length_map]); show (S.rows.length + rs.length) * 104 ≤ _; omega
    intro v' w7 hown7 hgrow hat
    have hown7 : w7.ownsRow 0 39 9 v' (S.rows.length + rs.length) ((S.rows.map encPost).flatten ++ (rs.map encPost).flatten) := by simpa using hown7
    obtain ⟨vA, vc, hvf⟩ := own_form hown7
    subst hvf
    have hkb : ∀ k, p.rV.ownBlock = some k → ρ k = 5 := HP.out.rows.role
    have hrb := HP.out.rH
    have hbV : bb < w6.heap.size := heap_lt HH.out
    have hg : ∀ k, (Value.slice vA (S.rows.length + rs.length) vc).ownBlock = some k → ρ k = 5 ∨ w6.heap.size ≤ k := fun k hk => by
      rcases hat with hat | hat
      · exact .inl (hkb k (hat ▸ hk))
      · right; rw [hat] at hk; injection hk with hk; omega
    have hbk7 : ∀ k, k < w6.heap.size → p.rV.ownBlock ≠ some k → w7.heap[k]? = w6.heap[k]? := fun k hk hn => hgrow.block k hk fun e => hn e.symm
    have hH7 := (hbk7 bb hbV fun e => by have := hkb bb e; omega).trans HH.out
    have f7 := frozen_blk hH7 4
    have b7 := blk4 hH7
    have hs7 : w6.heap.size ≤ w7.heap.size := hgrow.size
    have H7 := Lib.hid (And.intro hown7 (And.intro hgrow hbk7))
    have HG := Lib.hid hg
    clear hown7 hgrow hat hg hbk7
    (try clear b4 f4)
    go_wp2
    have hH8 := heap_setCell_same (i := 4) hH7 (Value.slice vA (S.rows.length + rs.length) vc)
    obtain ⟨hown7, hgrow, hbk7⟩ := H7.out
    have hc8 := ((Ch.refl F3 w6).grown hgrow fun k hk => .inl ((HF2.out k).2 (by have := hkb k hk; omega))).setCell (p := ⟨bb, 4, none⟩) (.inl ((HF2.out bb).2 (by omega))) (Value.slice vA (S.rows.length + rs.length) vc)
    have hk8 : ∀ k, k < w6.heap.size → k ≠ bb → p.rV.ownBlock ≠ some k → (w7.setCell ⟨bb, 4, none⟩ (Value.slice vA (S.rows.length + rs.length) vc)).heap[k]? = w6.heap[k]? := fun k hk hn hr => (Below.heap_setCell _ _ _ _ hn).trans (hbk7 k hk hr)
    have hown8 := ownsRow_keep (w' := w7.setCell ⟨bb, 4, none⟩ (Value.slice vA (S.rows.length + rs.length) vc)) hown7 fun k hk => Below.heap_setCell _ _ _ _ fun e => by subst e; rcases HG.out _ hk with h1 | h1 <;> omega
    have hs8 : w7.heap.size = (w7.setCell ⟨bb, 4, none⟩ (Value.slice vA (S.rows.length + rs.length) vc)).heap.size := by simp [World.setCell]
    generalize w7.setCell ⟨bb, 4, none⟩ (Value.slice vA (S.rows.length + rs.length) vc) = W8 at hH8 hc8 hk8 hown8 hs8 ⊢
    clear hown7 hgrow hbk7 H7 hH7 f7 b7
    obtain ⟨po0, hO0, hIO0⟩ := HP.out.own.ex
    obtain ⟨pl0, hL0', hIL0⟩ := HP.out.last.ex
    have hro := HP.out.own.role
    have hrl' := HP.out.last.role
    have hO8 := hO0.keep (hk8 _ hO0.lt (fun e => by rw [e] at hro; omega) fun e => by have := hkb _ e; omega)
    have hL8 := hL0'.keep (hk8 _ hL0'.lt (fun e => by rw [e] at hrl'; omega) fun e => by have := hkb _ e; omega)
    have hmm : ∀ k, k = p.mO ∨ k = p.mL → F3 k := fun k hk => (HF2.out k).2 (by rcases hk with rfl | rfl <;> omega)
    have hn1 : bb ≠ p.mO := fun e => by rw [← e] at hro; omega
    have hn2 : bb ≠ p.mL := fun e => by rw [← e] at hrl'; omega
    have hn3 : p.mO ≠ p.mL := fun e => by rw [e] at hro; omega
    have hcr : ∀ W, Ch (fun k => k = p.mO ∨ k = p.mL) W8 W → Ch F3 w6 W := fun W hc => hc8.trans hc fun i hi => .inl (hmm i hi)
    have hsW : ∀ W, Ch (fun k => k = p.mO ∨ k = p.mL) W8 W → Side w.heap.size w2.heap.size w2.heap.size e lv true fm fr fk (fun k => R k ∧ k < W0.heap.size) (.slice A rs.length c) rs W := fun W hc =>
      HS5.out.ch (n0 := w.heap.size) (HA.out.ch.trans (hcr W hc) fun i hi => (HA.out.new i hi).imp id And.left) HFL.out (Nat.le_refl _) (by omega) (by omega) fun k hk => HR.out k hk.1
    have hrd : ∀ W, Ch (fun k => k = p.mO ∨ k = p.mL) W8 W → ∀ j (hj : j < rs.length), ∃ ad, A = some ad ∧ ad.block < W.heap.size ∧ ∀ i u, (encPost rs[j])[i]? = some u → W.cell? ((ad.add (j * 9)).add i) = some u := fun W hc => row_read (hsW W hc).row
    have hHr : ∀ W, Ch (fun k => k = p.mO ∨ k = p.mL) W8 W → W.heap[bb]? = some (.cells ({ p with rV := (Value.slice vA (S.rows.length + rs.length) vc) }.cells { S with events := S.events + 1, turnover := t, keys := S.keys ++ [e.key] }) 78 (0, 0)) := fun W hc => (hc.block bb (heap_lt hH8) (fun e => by rcases e with e | e; exact hn1 e; exact hn2 e)).trans hH8
    have HSW := Lib.hid hsW
    have HRD := Lib.hid hrd
    have HHR := Lib.hid hHr
    have HCR := Lib.hid hcr
    have HK8 := Lib.hid hk8
    have HO8 := Lib.hid hown8
    have HM := Lib.hid hmm
    have hIO8 : OwnI (S.rows ++ rs.take 0) po0 := by simpa using hIO0
    have hIL8 : LastI (S.rows ++ rs.take 0) pl0 := by simpa using hIL0
    have HST := Lib.hid (And.intro (And.intro hO8 hIO8) (And.intro hL8 hIL8))
    have hs68 : w6.heap.size ≤ W8.heap.size := by omega
    clear hH8 hc8 hk8 hown8 hs8 hO0 hIO0 hL0' hIL0 hO8 hL8 hcr hsW hrd hHr hmm hIO8 hIL8 hs7
    go_loopw [57] (fun i wr => ∃ k, CountInv W8 p.mO p.mL S.rows rs i wr k) (fun i _ => rs.length - (intOf i).toNat)
    case atStart => exact ⟨0, Nat.zero_le _, rfl, ⟨po0, HST.out.1.1, HST.out.1.2⟩, ⟨pl0, HST.out.2.1, HST.out.2.2⟩, Ch.refl _ _⟩
    case round =>
      obtain ⟨k, hk, rfl, ⟨po, hO, hIO⟩, ⟨pl, hL, hIL⟩, hch⟩ := hrel
      by_cases hlt : k < rs.length
      · obtain ⟨ad, rfl, hab, hcw⟩ := HRD.out wr hch k hlt
        have hfit := count_fits HT.out.ok (by rw [HRS.out]; exact HK.out.grown) k hlt
        have hinv : CountInv W8 p.mO p.mL S.rows rs (.int .i64 (k : Int)) wr k := ⟨hk, rfl, ⟨po, hO, hIO⟩, ⟨pl, hL, hIL⟩, hch⟩
        obtain ⟨r, hr⟩ : ∃ r, r = rs[k] := ⟨_, rfl⟩
        have hcnt := count_any (w := wr.alloc (.cells (encPost r).toArray 39)) ((Below.heap_alloc _ _ _ (heap_lt (HHR.out wr hch))).trans (HHR.out wr hch)) (hO.keep (Below.heap_alloc _ _ _ hO.lt)) (hL.keep (Below.heap_alloc _ _ _ hL.lt)) hn1 hn2 hn3 r _ _ (hIO.get r.account) (hIL.get r.account) (by rw [hr]; exact hfit)
        rw [← hr] at hcw
        have c0 : wr.cell? (ad.add (k * 9)) = some (.int .i64 r.seq) := hcw 0 _ rfl
        have c1 : wr.cell? ⟨(ad.add (k * 9)).block, (ad.add (k * 9)).off + 1, none⟩ = some (.int .i64 r.line) := hcw 1 _ rfl
        have c2 : wr.cell? ⟨(ad.add (k * 9)).block, (ad.add (k * 9)).off + 2, none⟩ = some (.int .i64 r.day) := hcw 2 _ rfl
        have c3 : wr.cell? ⟨(ad.add (k * 9)).block, (ad.add (k * 9)).off + 3, none⟩ = some (.int .i64 r.kind) := hcw 3 _ rfl
        have c4 : wr.cell? ⟨(ad.add (k * 9)).block, (ad.add (k * 9)).off + 4, none⟩ = some (.string r.key) := hcw 4 _ rfl
        have c5 : wr.cell? ⟨(ad.add (k * 9)).block, (ad.add (k * 9)).off + 5, none⟩ = some (.string r.account) := hcw 5 _ rfl
        have c6 : wr.cell? ⟨(ad.add (k * 9)).block, (ad.add (k * 9)).off + 6, none⟩ = some (.int .i64 r.amount) := hcw 6 _ rfl
        have c7 : wr.cell? ⟨(ad.add (k * 9)).block, (ad.add (k * 9)).off + 7, none⟩ = some (.string r.tag) := hcw 7 _ rfl
        have c8 : wr.cell? ⟨(ad.add (k * 9)).block, (ad.add (k * 9)).off + 8, none⟩ = some (.string r.memo) := hcw 8 _ rfl
        have HI := Lib.hid hinv
        have HIO := Lib.hid hIO
        have HIL := Lib.hid hIL
        have HRR := Lib.hid hr
        unfold ptrV at hcnt
        simp only [encPost] at hcnt
        clear hinv hIO hIL hO hL hch hcw hfit hr
        go_wp2_with (go_at_call 42; refine hcnt.mono ?_; rintro en w9 hce; obtain rfl := hce.ret; have HCE := Lib.hid hce; clear hce hcnt)
        go_roundw
        case rel =>
          have hce := HCE.out
          have hr := HRR.out
          subst hr
          have hst := HI.out.step (w' := w9) (e := .returned (.tuple #[])) hlt HIO.out HIL.out ⟨rfl, hce.own, hce.last, ((Ch.refl _ wr).alloc _).trans' hce.ch⟩
          exact ⟨k + 1, hst.le, by go_num, hst.own, hst.last, hst.ch⟩
        case measure => simp [intOf]; omega
      · obtain rfl : k = rs.length := by omega
        rw [List.take_length] at hIO hIL
        have hswr := HSW.out wr hch
        obtain ⟨ρ', hbp, hnew⟩ := HP.out.counted rs (W0 := W8) HG.out (by have := hch.size; omega) (HHR.out wr hch) (fun k hk1 hk2 hk3 hk4 hk5 => (hch.block k (by omega) (fun e => by rcases e with e | e; exact hk4 e; exact hk5 e)).trans (HK8.out k hk1 hk2 hk3))
          (ownsRow_keep HO8.out fun k hk1 => hch.block k (HO8.out.lt k hk1).2 fun e => by have hl1 := hO.lt; rcases HG.out k hk1 with h1 | h1 <;> rcases e with e | e <;> subst e <;> first | omega | (have := HP.out.lt p.mO (by omega); have := HP.out.lt p.mL (by omega); omega)) hO hIO hL hIL
        have hS4 : { { S with events := S.events + 1, turnover := t, keys := S.keys ++ [e.key] } with rows := S.rows ++ rs } = tookS S e := by
          unfold tookS
          have htt := HTT.out
          rw [← HRS.out] at htt
          rw [HKD.out, ← HRS.out, ← htt]
          first | rfl | simp
        have hbp' : BookAt wr (fun k => ρ' k ≠ 0) bb (tookS S e) := ⟨ρ', _, hS4 ▸ hbp, fun k => Iff.rfl⟩
        have ha4 := HA.out.own hbp' (HCR.out wr hch) fun k hk1 => by
          rcases hnew k hk1 with h1 | h1
          · exact .inl ((HF2.out k).2 h1)
          · exact .inr ⟨h1.1, h1.2.1⟩
        have k3 := hswr.k3
        have hkp := HKEEP.out (fun k => R k ∧ k < W0.heap.size) wr _ w.heap.size ha4.book hswr.ev (ha4.far (by have := HB5.out.size; have := heap_lt HS5.out.ev.blk; omega) (fun hf => Nat.lt_irrefl _ (HFL.out _ hf))).2 hswr.lines fun k hk1 => (ha4.far (by have := hk1.2; omega) (HR.out k hk1.1)).2
        have HA4 := Lib.hid ha4
        unfold ptrV at hkp
        clear hswr hbp hbp' ha4 hO hL hIO hIL hch hnew
        go_wp2_with (refine hkp.mono ?_; rintro en w9 hp9; obtain rfl := hp9.ret; obtain ⟨F5, ha5⟩ := HA4.out.step hp9; have HA5 := Lib.hid ha5; clear hp9 ha5 hkp)
        go_ret2
        rw [← HRS.out]
        exact apply_fin HFL.out HB5.out (by omega) HS5.out.row HA5.out
end
end Go.Proofs.YtgocoofcelggcaaGreatDoor
namespace Go.Proofs.YtgocoofcelggcaaGreatDoor
set_option linter.unusedVariables false
set_option linter.unusedSimpArgs false

/-- Books, and the events that they took. -/
structure ToldS where
  S : BookS
  T : List EventV
def toldNew : ToldS := ⟨newS, []⟩
def tellF (t : ToldS) (e : EventV) : ToldS := if checkE t.S e = 0 then ⟨applyS t.S e, t.T ++ [e]⟩ else t
def tellsF (t : ToldS) (l : List EventV) : ToldS := l.foldl tellF t
theorem tellsF_nil (t : ToldS) : tellsF t [] = t := rfl
theorem tellsF_snoc (t : ToldS) (l : List EventV) (e : EventV) : tellsF t (l ++ [e]) = tellF (tellsF t l) e := by
  unfold tellsF
  rw [List.foldl_append]
  rfl
theorem tellF_no {t : ToldS} {e : EventV} (h : checkE t.S e ≠ 0) : tellF t e = t := by unfold tellF; rw [if_neg h]
theorem tellF_yes {t : ToldS} {e : EventV} (h : checkE t.S e = 0) : tellF t e = ⟨applyS t.S e, t.T ++ [e]⟩ := by unfold tellF; rw [if_pos h]
theorem applyS_yes {S : BookS} {e : EventV} (h : checkE S e = 0) : applyS S e = keepS (tookS S e) e := by unfold applyS; rw [if_pos h]

/-! ### What an event that is taken leaves -/
theorem keepS_lock (S : BookS) (e : EventV) : (keepS S e).lock = if e.kind = 1 ∨ e.kind = 2 ∨ e.kind = 3 ∨ e.kind = 4 ∨ e.kind = 5 ∨ e.kind = 6 ∨ e.kind = 7 then S.lock else e.day := by
  unfold keepS
  by_cases k1 : e.kind = 1
  · simp [k1]
  by_cases k2 : e.kind = 2
  · simp [k2]
  by_cases k3 : e.kind = 3
  · simp [k3]
  by_cases k4 : e.kind = 4
  · simp [k4]
  by_cases k5 : e.kind = 5
  · simp [k5]
  by_cases k6 : e.kind = 6
  · simp [k6]
  by_cases k7 : e.kind = 7
  · simp [k7]
  simp [k1, k2, k3, k4, k5, k6, k7]
theorem keepS_events (S : BookS) (e : EventV) : (keepS S e).events = S.events := by unfold keepS; (repeat' split) <;> rfl
theorem keepS_keys (S : BookS) (e : EventV) : (keepS S e).keys = S.keys := by unfold keepS; (repeat' split) <;> rfl
theorem keepS_rows (S : BookS) (e : EventV) : (keepS S e).rows = S.rows := by unfold keepS; (repeat' split) <;> rfl
theorem keepS_turn (S : BookS) (e : EventV) : (keepS S e).turnover = S.turnover := by unfold keepS; (repeat' split) <;> rfl

theorem Taken.kinds {S : BookS} {e : EventV} (h : Taken S e) : e.kind = 1 ∨ e.kind = 2 ∨ e.kind = 3 ∨ e.kind = 4 ∨ e.kind = 5 ∨ e.kind = 6 ∨ e.kind = 7 ∨ e.kind = 8 := by
  have hf := h.fields
  by_cases k1 : e.kind = 1
  · simp [k1]
  by_cases k2 : e.kind = 2
  · simp [k2]
  by_cases k3 : e.kind = 3
  · simp [k3]
  by_cases k4 : e.kind = 4
  · simp [k4]
  by_cases k5 : e.kind = 5
  · simp [k5]
  by_cases k6 : e.kind = 6
  · simp [k6]
  by_cases k7 : e.kind = 7
  · simp [k7]
  unfold fieldsB at hf
  simp [k1, k2, k3, k4, k5, k6, k7] at hf
  simp [hf]
theorem apply_lock {S : BookS} {e : EventV} (h : checkE S e = 0) : (applyS S e).lock = if e.kind = 8 then e.day else S.lock := by
  rw [applyS_yes h, keepS_lock]
  rcases (taken_of h).kinds with k | k | k | k | k | k | k | k <;> simp [k, tookS]
theorem lock_day {S : BookS} {e : EventV} (h : checkE S e = 0) : S.lock < e.day := by
  have hk := taken_of h
  by_cases k8 : e.kind = 8
  · have := hk.refuse
    unfold refuseE mayLockE at this
    simp [k8] at this
    omega
  · unfold checkE at h
    have h1 : ¬ evB e = false := by rw [hk.ev]; simp
    rw [if_neg h1] at h
    have h2 : ¬ 1000 ≤ S.events := by have := hk.many; omega
    rw [if_neg h2] at h
    split at h
    · omega
    split at h
    · omega
    · rename_i h3
      by_cases h4 : e.day ≤ S.lock
      · exact absurd ⟨k8, h4⟩ h3
      · omega
theorem rows_lock (S : BookS) {e : EventV} (h : e.kind = 8) : rowsOf S e = [] := by unfold rowsOf; simp [h]

/-- BookLocks: an event that is taken. -/
theorem locks_yes {S : BookS} {e : EventV} (h : checkE S e = 0) : (∀ r ∈ rowsOf S e, (applyS S e).lock < r.day) ∧ (e.kind = 8 → S.lock < e.day ∧ (applyS S e).lock = e.day) ∧ (e.kind ≠ 8 → (applyS S e).lock = S.lock) := by
  have h1 := lock_day h
  have h2 := apply_lock h
  refine ⟨fun r hr => ?_, fun k => ⟨h1, by rw [h2, if_pos k]⟩, fun k => by rw [h2, if_neg k]⟩
  by_cases k8 : e.kind = 8
  · rw [rows_lock S k8] at hr
    simp at hr
  · rw [h2, if_neg k8, rows_day S e r hr]
    exact h1

/-! ### Keys -/
theorem apply_keys {S : BookS} {e : EventV} (h : checkE S e = 0) : (applyS S e).keys = if keyedB e.kind then S.keys ++ [e.key] else S.keys := by
  rw [applyS_yes h, keepS_keys]
  rfl
theorem key_keyed {e : EventV} (h : evB e = true) (hk : e.key ≠ emptyB) : keyedB e.kind = true := by
  unfold evB at h
  simp only [Bool.and_eq_true] at h
  have ho := h.2
  have hf := h.1.2
  have hn : nilB e.key = false := by
    cases hx : nilB e.key with
    | false => rfl
    | true => exact absurd (nilB_iff.1 hx) hk
  unfold ownB bareB at ho
  unfold keyedB
  by_cases k1 : e.kind = 1
  · simp [k1, hn] at ho
  by_cases k2 : e.kind = 2
  · simp [k2, hn] at ho
  by_cases k3 : e.kind = 3
  · simp [k3]
  by_cases k4 : e.kind = 4
  · simp [k4]
  by_cases k5 : e.kind = 5
  · simp [k5]
  by_cases k6 : e.kind = 6
  · simp [k6]
  by_cases k7 : e.kind = 7
  · simp [k7]
  simp [k1, k2, k3, k4, k5, k6, k7, hn] at ho
/-- A key that was taken is refused. -/
theorem once {S : BookS} {x : EventV} (hk : x.key ∈ S.keys) (hn : x.key ≠ emptyB) : checkE S x ≠ 0 := by
  intro h
  have ht := taken_of h
  exact ht.fresh (key_keyed ht.ev hn) hk

/-- What holds of books and of what they took. -/
structure ToldOk (t : ToldS) : Prop where
  ok : OkT t.S
  len : (t.T.length : Int) = t.S.events
  keys : ∀ e ∈ t.T, e.key ≠ emptyB → e.key ∈ t.S.keys
theorem toldOk_new : ToldOk toldNew := ⟨okT_new, rfl, fun e he => by simp [toldNew] at he⟩
theorem ToldOk.tell {t : ToldS} {e : EventV} (h : ToldOk t) (hin : InEv e) : ToldOk (tellF t e) := by
  by_cases hc : checkE t.S e = 0
  · rw [tellF_yes hc]
    refine ⟨ok_apply h.ok hin, ?_, fun x hx hn => ?_⟩
    · show ((t.T ++ [e]).length : Int) = (applyS t.S e).events
      rw [applyS_yes hc, keepS_events]
      have := h.len
      simp [tookS]
      omega
    · show x.key ∈ (applyS t.S e).keys
      rw [apply_keys hc]
      rcases List.mem_append.1 hx with hx | hx
      · have := h.keys x hx hn
        split
        · exact List.mem_append_left _ this
        · exact this
      · rw [List.mem_singleton] at hx
        subst hx
        rw [if_pos (key_keyed (taken_of hc).ev hn)]
        simp
  · rw [tellF_no hc]
    exact h
theorem ToldOk.tells {l : List EventV} : ∀ {t : ToldS}, ToldOk t → (∀ e ∈ l, InEv e) → ToldOk (tellsF t l) := by
  induction l with
  | nil => intro t h _; exact h
  | cons e l ih =>
    intro t h hin
    exact ih (h.tell (hin e (by simp))) fun x hx => hin x (by simp [hx])
end Go.Proofs.YtgocoofcelggcaaGreatDoor
namespace Go.Proofs.YtgocoofcelggcaaGreatDoor
open Go.RowKit
set_option linter.unusedVariables false
set_option linter.unusedSimpArgs false

def takCells (T : List EventV) (lv : Nat → Value) : List (List Value) := T.mapIdx fun i e => (evCs e (lv i)).toList
theorem takCells_snoc (T : List EventV) (lv : Nat → Value) (x : EventV) (v : Value) : takCells (T ++ [x]) (lvPut lv T.length v) = takCells T lv ++ [(evCs x v).toList] := by
  unfold takCells
  rw [List.mapIdx_append]
  congr 1
  · apply List.ext_getElem
    · simp
    · intro j h1 h2
      simp at h1
      simp [lvPut, Nat.ne_of_lt h1]
  · simp [lvPut]
theorem takCells_len (T : List EventV) (lv : Nat → Value) : (takCells T lv).length = T.length := by simp [takCells]

structure ToldP (w : World) (F G : Nat → Prop) (bt bb : Nat) (tv rv : Value) (lv : Nat → Value) (S : BookS) (T : List EventV) (rs : List PostV) : Prop where
  book : BookAt w F bb S
  head : w.heap[bt]? = some (.cells #[ptrV bb, tv, rv] 31 (0, 0))
  taken : w.ownsRow 0 25 12 tv T.length (takCells T lv).flatten
  lines : ∀ i (hi : i < T.length), LinesAt w G (lv i) T[i].lines
  nil : ∀ i, i < T.length → NilOk (lv i)
  small : ∀ x ∈ T, SmallEv x ∧ InEv x
  rows : w.ownsRow 0 39 9 rv rs.length (rs.map encPost).flatten
  bF : ¬ F bt
  Gb : ¬ G bt
  GF : ∀ k, G k → ¬ F k
  Glt : ∀ k, G k → k < w.heap.size
  TF : ∀ k, tv.ownBlock = some k → ¬ F k ∧ ¬ G k ∧ k ≠ bt
  RF : ∀ k, rv.ownBlock = some k → ¬ F k ∧ ¬ G k ∧ k ≠ bt ∧ tv.ownBlock ≠ some k

/-- All blocks of such books. -/
def toldH (F G : Nat → Prop) (bt : Nat) (tv rv : Value) (k : Nat) : Prop := F k ∨ G k ∨ k = bt ∨ tv.ownBlock = some k ∨ rv.ownBlock = some k

/-- Such books lie at bt; H: all their blocks; G: those of the taken events' lines. -/
structure ToldAt (w : World) (H G : Nat → Prop) (bt : Nat) (t : ToldS) : Prop where
  ex : ∃ F bb tv rv lv, ToldP w F G bt bb tv rv lv t.S t.T t.S.rows ∧ ∀ k, H k ↔ toldH F G bt tv rv k

section
variable {w W : World} {F G : Nat → Prop} {bt bb : Nat} {tv rv : Value} {lv : Nat → Value} {S : BookS} {T : List EventV} {rs : List PostV}

theorem ToldP.lt (h : ToldP w F G bt bb tv rv lv S T rs) : ∀ k, toldH F G bt tv rv k → k < w.heap.size := by
  rintro k (h1 | h1 | rfl | h1 | h1)
  · exact h.book.lt k h1
  · exact h.Glt k h1
  · exact heap_lt h.head
  · exact (h.taken.lt k h1).2
  · exact (h.rows.lt k h1).2

theorem ToldP.keep (h : ToldP w F G bt bb tv rv lv S T rs) (hs : w.heap.size ≤ W.heap.size) (hk : ∀ k, k < w.heap.size → toldH F G bt tv rv k → W.heap[k]? = w.heap[k]?) : ToldP W F G bt bb tv rv lv S T rs := by
  have hk' : ∀ k, toldH F G bt tv rv k → W.heap[k]? = w.heap[k]? := fun k hh => hk k (h.lt k hh) hh
  exact {
    book := h.book.keep hs fun k _ hf => hk' k (.inl hf)
    head := (hk' bt (.inr (.inr (.inl rfl)))).trans h.head
    taken := ownsRow_keep h.taken fun k e => hk' k (.inr (.inr (.inr (.inl e))))
    lines := fun i hi => (h.lines i hi).keep fun k hg _ => ⟨hk' k (.inr (.inl hg)), hg⟩
    nil := h.nil
    small := h.small
    rows := ownsRow_keep h.rows fun k e => hk' k (.inr (.inr (.inr (.inr e))))
    bF := h.bF
    Gb := h.Gb
    GF := h.GF
    Glt := fun k hg => by have := h.Glt k hg; omega
    TF := h.TF
    RF := h.RF }
theorem ToldP.below (h : ToldP w F G bt bb tv rv lv S T rs) (hb : Below w.heap.size w W) : ToldP W F G bt bb tv rv lv S T rs := h.keep hb.size fun k hl _ => hb.block k hl
theorem ToldP.ch {X : Nat → Prop} (h : ToldP w F G bt bb tv rv lv S T rs) (hc : Ch X w W) (hX : ∀ k, X k → ¬ toldH F G bt tv rv k) : ToldP W F G bt bb tv rv lv S T rs := h.keep hc.size fun k hl hh => hc.block k hl fun hx => hX k hx hh

/-- The books alone turn. -/
theorem ToldP.book_step {F1 : Nat → Prop} {S1 : BookS} (h : ToldP w F G bt bb tv rv lv S T rs) (hb : BookAt W F1 bb S1) (hc : Ch F w W) (hn : ∀ k, F1 k → F k ∨ (w.heap.size ≤ k ∧ k < W.heap.size)) : ToldP W F1 G bt bb tv rv lv S1 T rs := by
  have hbl := heap_lt h.head
  have hs := hc.size
  have hnF : ∀ k, k < w.heap.size → ¬ F k → ¬ F1 k := fun k hl hf h1 => by rcases hn k h1 with h2 | h2; exact hf h2; omega
  exact {
    book := hb
    head := (hc.block bt hbl h.bF).trans h.head
    taken := ownsRow_keep h.taken fun k e => hc.block k (h.taken.lt k e).2 (h.TF k e).1
    lines := fun i hi => (h.lines i hi).keep fun k hg hl => ⟨hc.block k hl (h.GF k hg), hg⟩
    nil := h.nil
    small := h.small
    rows := ownsRow_keep h.rows fun k e => hc.block k (h.rows.lt k e).2 (h.RF k e).1
    bF := hnF bt hbl h.bF
    Gb := h.Gb
    GF := fun k hg => hnF k (h.Glt k hg) (h.GF k hg)
    Glt := fun k hg => by have := h.Glt k hg; omega
    TF := fun k e => ⟨hnF k (h.taken.lt k e).2 (h.TF k e).1, (h.TF k e).2⟩
    RF := fun k e => ⟨hnF k (h.rows.lt k e).2 (h.RF k e).1, (h.RF k e).2⟩ }

/-- An event more. -/
theorem ToldP.take_step (h : ToldP w F G bt bb tv rv lv S T rs) (x : EventV) (hsm : SmallEv x ∧ InEv x) {cv : Value} {g cap : Nat} (hs : w.heap.size ≤ W.heap.size)
    (hk : ∀ k, k < w.heap.size → k ≠ bt → tv.ownBlock ≠ some k → W.heap[k]? = w.heap[k]?)
    (hd : W.heap[bt]? = some (.cells #[ptrV bb, .slice (some ⟨g, 0, none⟩) (T.length + 1) cap, rv] 31 (0, 0)))
    (hown : W.ownsRow 0 25 12 (.slice (some ⟨g, 0, none⟩) (T.length + 1) cap) (T.length + 1) ((takCells T lv).flatten ++ (evCs x cv).toList))
    (hg : tv.ownBlock = some g ∨ w.heap.size ≤ g) (hcv : W.ownsRow w.heap.size 90 3 cv x.lines.length (x.lines.map encLine).flatten) (hgc : cv.ownBlock ≠ some g) :
    ToldP W F (fun k => G k ∨ cv.ownBlock = some k) bt bb (.slice (some ⟨g, 0, none⟩) (T.length + 1) cap) rv (lvPut lv T.length cv) S (T ++ [x]) rs := by
  have hbl := heap_lt h.head
  have hgl := (hown.lt g rfl).2
  have hcn : ∀ k, cv.ownBlock = some k → w.heap.size ≤ k ∧ k < W.heap.size := fun k e => hcv.lt k e
  have hlc : LinesAt W (fun k => G k ∨ cv.ownBlock = some k) cv x.lines :=
    RowAt.of_own (B := w.heap.size) (e := 90) (by rw [List.length_map]; exact hcv) (fun y hy => by obtain ⟨z, _, rfl⟩ := List.mem_map.1 hy; rfl) fun k e => .inr e
  exact {
    book := h.book.keep hs fun k hl hf => hk k hl (fun e => h.bF (e ▸ hf)) fun e => (h.TF k e).1 hf
    head := hd
    taken := by
      rw [takCells_snoc, List.length_append, List.length_singleton, List.flatten_append]
      simpa using hown
    lines := fun i hi => by
      by_cases e : i = T.length
      · subst e
        rw [List.getElem_append_right (by omega)]
        simpa [lvPut] using hlc
      · have hi' : i < T.length := by rw [List.length_append, List.length_singleton] at hi; omega
        rw [List.getElem_append_left hi']
        have hlv : lvPut lv T.length cv i = lv i := by unfold lvPut; rw [if_neg e]
        rw [hlv]
        exact (h.lines i hi').keep fun k hG hl => ⟨hk k hl (fun e => h.Gb (e ▸ hG)) fun e => (h.TF k e).2.1 hG, .inl hG⟩
    nil := fun i hi => by
      unfold lvPut
      split
      · exact NilOk.own hcv
      · exact h.nil i (by rw [List.length_append, List.length_singleton] at hi; omega)
    small := fun y hy => by
      rcases List.mem_append.1 hy with hy | hy
      · exact h.small y hy
      · rw [List.mem_singleton] at hy; rw [hy]; exact hsm
    rows := ownsRow_keep h.rows fun k e => hk k (h.rows.lt k e).2 (h.RF k e).2.2.1 (h.RF k e).2.2.2
    bF := h.bF
    Gb := fun hg' => by
      rcases hg' with hg' | hg'
      · exact h.Gb hg'
      · have := hcn _ hg'; omega
    GF := fun k hg' hf => by
      rcases hg' with hg' | hg'
      · exact h.GF k hg' hf
      · have := hcn _ hg'; have := h.book.lt k hf; omega
    Glt := fun k hg' => by
      rcases hg' with hg' | hg'
      · have := h.Glt k hg'; omega
      · exact (hcn _ hg').2
    TF := fun k e => by
      obtain rfl : k = g := (Option.some.inj e).symm
      rcases hg with hg | hg
      · have h1 := h.TF _ hg
        refine ⟨h1.1, fun h2 => ?_, h1.2.2⟩
        rcases h2 with h2 | h2
        · exact h1.2.1 h2
        · exact hgc h2
      · refine ⟨fun hf => by have := h.book.lt _ hf; omega, fun h2 => ?_, by omega⟩
        rcases h2 with h2 | h2
        · have := h.Glt _ h2; omega
        · exact hgc h2
    RF := fun k e => by
      have h1 := h.RF k e
      have hl := (h.rows.lt k e).2
      refine ⟨h1.1, fun h2 => ?_, h1.2.2.1, fun h2 => ?_⟩
      · rcases h2 with h2 | h2
        · exact h1.2.1 h2
        · have := hcn _ h2; omega
      · obtain rfl : k = g := (Option.some.inj h2).symm
        rcases hg with hg | hg
        · exact h1.2.2.2 hg
        · omega }

/-- Rows more. -/
theorem ToldP.rows_step (h : ToldP w F G bt bb tv rv lv S T rs) (new : List PostV) {v' : Value} (hs : w.heap.size ≤ W.heap.size)
    (hk : ∀ k, k < w.heap.size → k ≠ bt → rv.ownBlock ≠ some k → W.heap[k]? = w.heap[k]?)
    (hd : W.heap[bt]? = some (.cells #[ptrV bb, tv, v'] 31 (0, 0)))
    (hown : W.ownsRow 0 39 9 v' (rs.length + new.length) ((rs.map encPost).flatten ++ (new.map encPost).flatten))
    (hg : ∀ k, v'.ownBlock = some k → rv.ownBlock = some k ∨ w.heap.size ≤ k) : ToldP W F G bt bb tv v' lv S T (rs ++ new) := by
  have hbl := heap_lt h.head
  exact {
    book := h.book.keep hs fun k hl hf => hk k hl (fun e => h.bF (e ▸ hf)) fun e => (h.RF k e).1 hf
    head := hd
    taken := ownsRow_keep h.taken fun k e => hk k (h.taken.lt k e).2 (h.TF k e).2.2 fun e' => (h.RF k e').2.2.2 e
    lines := fun i hi => (h.lines i hi).keep fun k hG hl => ⟨hk k hl (fun e => h.Gb (e ▸ hG)) fun e => (h.RF k e).2.1 hG, hG⟩
    nil := h.nil
    small := h.small
    rows := by
      rw [List.length_append, List.map_append, List.flatten_append]
      exact hown
    bF := h.bF
    Gb := h.Gb
    GF := h.GF
    Glt := fun k hG => by have := h.Glt k hG; omega
    TF := h.TF
    RF := fun k e => by
      rcases hg k e with h1 | h1
      · exact h.RF k h1
      · exact ⟨fun hf => by have := h.book.lt k hf; omega, fun hG => by have := h.Glt k hG; omega, by omega, fun e' => by have := (h.taken.lt k e').2; omega⟩ }
end

section
variable {w W : World} {H G : Nat → Prop} {bt : Nat} {t : ToldS}
theorem ToldAt.lt (h : ToldAt w H G bt t) : ∀ k, H k → k < w.heap.size := by
  obtain ⟨F, bb, tv, rv, lv, hp, hH⟩ := h
  exact fun k hk => hp.lt k ((hH k).1 hk)
theorem ToldAt.below (h : ToldAt w H G bt t) (hb : Below w.heap.size w W) : ToldAt W H G bt t := by
  obtain ⟨F, bb, tv, rv, lv, hp, hH⟩ := h
  exact ⟨F, bb, tv, rv, lv, hp.below hb, hH⟩
theorem ToldAt.ch {X : Nat → Prop} (h : ToldAt w H G bt t) (hc : Ch X w W) (hX : ∀ k, X k → ¬ H k) : ToldAt W H G bt t := by
  obtain ⟨F, bb, tv, rv, lv, hp, hH⟩ := h
  exact ⟨F, bb, tv, rv, lv, hp.ch hc fun k hx hh => hX k hx ((hH k).2 hh), hH⟩
theorem ToldAt.small (h : ToldAt w H G bt t) : ∀ x ∈ t.T, SmallEv x ∧ InEv x := by
  obtain ⟨F, bb, tv, rv, lv, hp, hH⟩ := h
  exact hp.small
end
end Go.Proofs.YtgocoofcelggcaaGreatDoor
namespace Go.Proofs.YtgocoofcelggcaaGreatDoor
open Go.RowKit
set_option linter.unusedVariables false
set_option linter.unusedSimpArgs false

theorem apply_any {w : World} {F R : Nat → Prop} {bb : Nat} {S : BookS} {e : EventV} (h : BookAt w F bb S) (ht : OkT S) (hz : SmallEv e) (hin : InEv e) (A : Option Addr) (c : Nat) (hL : LinesAt w R (.slice A e.lines.length c) e.lines) (hR : ∀ k, R k → ¬ F k) :
    Calls Tryz.prog 22 #[ptrV bb, evV e (.slice A e.lines.length c)] w (ApplyPost F bb (applyS S e) (applyR S e) (checkE S e) w) := by
  have hb0 := bel1 w (.cells (evCs e (.slice A e.lines.length c)) 25)
  have hchk := check_any (h.below hb0) ht hz hin A c (hL.below hb0)
  by_cases hc : checkE S e = 0
  · have hS : applyS S e = keepS (tookS S e) e := by unfold applyS; rw [if_pos hc]
    have hR' : applyR S e = rowsOf S e := by unfold applyR; rw [if_pos hc]
    rw [hS, hR', hc]
    rw [hc] at hchk
    exact apply_yes h ht hz hin hL hR (taken_of hc) hchk
  · have hS : applyS S e = S := by unfold applyS; rw [if_neg hc]
    have hR' : applyR S e = [] := by unfold applyR; rw [if_neg hc]
    rw [hS, hR']
    refine (apply_no _ hc hchk).mono ?_
    rintro en w' ⟨rfl, hb⟩
    exact ⟨_, F, rfl, World.ownsRow_nil _ _ _ _, h.below hb, Ch.of_below hb, fun k hk => .inl hk, fun k e => by cases e⟩
end Go.Proofs.YtgocoofcelggcaaGreatDoor
