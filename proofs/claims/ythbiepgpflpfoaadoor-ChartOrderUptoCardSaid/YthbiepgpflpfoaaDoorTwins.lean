/- ChartTwins: the walk. -/
import Derived.Test.YthbiepgpflpfoaaDoorTwin
namespace Go.Proofs.YthbiepgpflpfoaaDoor
open Go.RowKit Go.Shelf
set_option linter.unusedVariables false
set_option linter.unusedSimpArgs false

structure TwinsInv (w : World) (L0 : List Acct) (more : List ActV) (cb db : Nat) (i : Value) (wr : World) (k : Nat) : Prop where
  le : k ≤ more.length
  at_ : i = .int .i64 (k : Int)
  twin : Twin w wr (fun _ => False) cb db (playL L0 (more.take k)) (playL L0 (more.take k))

theorem twin_start {w w2 w3 w4 : World} {Fc Fd : Nat → Prop} {cb db : Nat} {L : List Acct} (h : ChartAt w2 Fc cb L) (hF : ∀ x, Fc x → w.heap.size ≤ x) (b2 : Below w.heap.size w w2) (b3 : Below w2.heap.size w2 w3) (b4 : Below w3.heap.size w3 w4)
    (hd : ChartAt w4 Fd db L) (hG : ∀ x, Fd x → w3.heap.size ≤ x) : Twin w w4 (fun _ => False) cb db L L := by
  have z2 := b2.size
  have z3 := b3.size
  have z4 := b4.size
  have b24 : Below w2.heap.size w2 w4 := b3.trans (b4.mono z3)
  refine ⟨⟨_, _, (h.cut).below b24, hd.cut, ?_, ?_⟩, fun _ h => h.elim, b2.trans (b24.mono z2)⟩
  · rintro x ⟨hx, hl⟩
    exact ⟨fun hd => by have := hG x hd.1; omega, fun h => h, hF x hx, by omega⟩
  · rintro x ⟨hx, hl⟩
    have := hG x hx
    exact ⟨fun h => h, by omega, hl⟩

set_option maxHeartbeats 2000000 in
set_option maxRecDepth 100000 in
theorem twins_walk (w : World) (va vm : Value) (acts more : List ActV) (hA : ActsAt w va acts) (hM : ActsAt w vm more) :
    Calls Tryd.prog 4 #[va, vm] w fun e w' => e = .returned (.bool true) ∧ Below w.heap.size w w' := by
  have q27 : ∀ (w : World) (p : Option Addr), (binOp .eql 27 (.pointer p) (.pointer none)).run Tryd.prog w = .ok (.bool p.isNone) w := fun w p => run_eql_pointer_nil w _ p (by kernel_rfl)
  have hv0 : Valid (playL [] acts) := play_valid acts valid_nil
  obtain ⟨L0, hL0⟩ : ∃ L0, L0 = playL [] acts := ⟨_, rfl⟩
  rw [← hL0] at hv0
  have HL0 := Lib.hid hL0
  have HV0 := Lib.hid hv0
  clear hL0 hv0
  have HA := Lib.hid hA
  have HM := Lib.hid hM
  obtain ⟨hlen, A, c, rfl, hcells⟩ := hM
  have HC := Lib.hid hcells
  clear hcells hA
  go_enter Tryd.func4, Tryd.ntmps4
  go_wp2_with (first
    | (go_at_call 6; refine (first_any _).mono ?_; rintro e w1 ⟨rfl, hb1⟩; have hpl := played_any w1 va acts (HA.out.below hb1); rw [← HL0.out] at hpl; have HB1 := Lib.hid hb1; clear hb1)
    | (go_at_call 7; refine hpl.mono ?_; rintro e w2 ⟨cb, Fc, he, hc2, hF2, hb2⟩; unfold ptrV at he; subst he; clear hpl; have hac := Accounts_any hc2 HV0.out; have H2 := Lib.hid (And.intro hc2 (And.intro hF2 hb2)); clear hc2 hF2 hb2)
    | (go_at_call 8; refine hac.mono ?_; rintro e w3 ⟨v3, rfl, hr3, hb3⟩; clear hac; have hfr := From_any hr3 HV0.out; have H3 := Lib.hid hb3; clear hr3 hb3)
    | (go_at_call 17; refine hfr.mono ?_; rintro e w4 ⟨db, Fd, he, hd4, hF4, hb4⟩; unfold ptrV at he; subst he; clear hfr; have H4 := Lib.hid (And.intro hd4 (And.intro hF4 hb4)); clear hd4 hF4 hb4))
  go_simp
  go_wp2
  have hT : Twin w w4 (fun _ => False) cb db L0 L0 := by
    obtain ⟨hc2, hF2, hb2⟩ := H2.out
    obtain ⟨hd4, hF4, hb4⟩ := H4.out
    have z1 := HB1.out.size
    exact twin_start hc2 (fun x hx => by have := hF2 x hx; omega) (HB1.out.trans (hb2.mono z1)) H3.out hb4 hd4 hF4
  have HT := Lib.hid hT
  clear hT H2 H3 H4 HB1 HL0 HA
  go_loopw [9] (fun i wr => ∃ k, TwinsInv w L0 more cb db i wr k) (fun i _ => more.length - (intOf i).toNat)
  case atStart => exact ⟨0, Nat.zero_le _, rfl, HT.out⟩
  case round =>
    clear HT
    obtain ⟨k, hk, rfl, hT⟩ := hrel
    by_cases hlt : k < more.length
    · obtain ⟨ad, who, ask, rfl, hab, hsz, hcs⟩ := HC.out k hlt
      have HPL := Lib.hid (playL_take L0 more k hlt)
      have hv : Valid (playL L0 (more.take k)) := play_valid _ HV0.out
      obtain ⟨L, hL⟩ : ∃ L, L = playL L0 (more.take k) := ⟨_, rfl⟩
      obtain ⟨a, ha⟩ : ∃ a, a = more[k] := ⟨_, rfl⟩
      rw [← hL] at hT hv
      rw [← ha] at hsz hcs
      have HL := Lib.hid hL
      have HAc := Lib.hid ha
      clear hL ha
      have hv' := act_valid hv a
      have cell : ∀ W, Below w.heap.size w W → W.cell? (ad.add (k * 6)) = some (.int .i64 who) ∧ W.cell? ⟨(ad.add (k * 6)).block, (ad.add (k * 6)).off + 1, none⟩ = some (.int .i64 a.kind) ∧ W.cell? ⟨(ad.add (k * 6)).block, (ad.add (k * 6)).off + 2, none⟩ = some (.int .i64 a.typ) ∧
          W.cell? ⟨(ad.add (k * 6)).block, (ad.add (k * 6)).off + 3, none⟩ = some (.int .i64 a.day) ∧ W.cell? ⟨(ad.add (k * 6)).block, (ad.add (k * 6)).off + 4, none⟩ = some (.string a.name) ∧ W.cell? ⟨(ad.add (k * 6)).block, (ad.add (k * 6)).off + 5, none⟩ = some (.string ask) := fun W hb => by
        have hcw := fun i u hu => (hb.cell (p := (ad.add (k * 6)).add i) (by rw [block_add, block_add]; exact hab)).trans (hcs i u hu)
        exact ⟨hcw 0 _ rfl, hcw 1 _ rfl, hcw 2 _ rfl, hcw 3 _ rfl, hcw 4 _ rfl, hcw 5 _ rfl⟩
      have CELL := Lib.hid cell
      clear cell hcs
      have ha1 := twin_acc hT hv
      have HREF := Lib.hid (act_refused L a)
      obtain ⟨E, hE⟩ : ∃ E, E = actE L a := ⟨_, rfl⟩
      rw [← hE] at HREF
      have HE := Lib.hid hE
      clear hE hT
      have hE' : actE L a = E := HE.out.symm
      have HE' := Lib.hid hE'
      clear hE'
      obtain ⟨S, hS⟩ : ∃ S, S = decide (L = actL L a) := ⟨_, rfl⟩
      have HS := Lib.hid hS
      clear hS
      have hl1 := hv.le
      have hl2 := hv'.le
      have HV := Lib.hid hv
      have HV' := Lib.hid hv'
      clear hv hv'
      by_cases k3 : a.kind = 3
      · have hst : Hid (S = true) := by show S = true; rw [HS.out, HREF.out (.inr k3)]; exact decide_eq_true rfl
        have hst' := hst.out
        clear hst
        subst hst'
        have k4 : (a.kind == 3) = true := by simpa using k3
        clear k3
        by_cases e0 : E = 0
        · subst e0
          go_wp2_with (first
            | (go_at_call 8; refine ha1.mono ?_; rintro e w1 ⟨v1, rfl, hr1, hT1, hb1⟩; clear ha1; obtain ⟨c0, c1, c2, c3, c4, c5⟩ := CELL.out w1 hT1.bel; have K1 := Lib.hid (hr1.kreads (fun x => False ∨ wr.heap.size ≤ x ∧ x < w1.heap.size) (fun x h1 h2 => .inr ⟨h1, h2⟩)); have hact1 := twin_act hT1 HV.out who a ask hsz; unfold actV at hact1; rw [HE'.out] at hact1; clear hr1 hT1)
            | (go_at_call 16; refine hact1.mono ?_; rintro e w2 ⟨rfl, hT2, hk2⟩; clear hact1 c0 c1 c2 c3 c4 c5; obtain ⟨c0, c1, c2, c3, c4, c5⟩ := CELL.out w2 hT2.bel; have K2 := Lib.hid (hk2 _ _ K1.out); have hact2 := twin_act hT2.swap HV.out who a ask hsz; unfold actV at hact2; rw [HE'.out] at hact2; clear hT2 hk2 K1)
            | (go_at_call 16; refine hact2.mono ?_; rintro e w3 ⟨rfl, hT3, hk3⟩; clear hact2 c0 c1 c2 c3 c4 c5; have K3 := Lib.hid (hk3 _ _ K2.out); have ha2 := twin_acc hT3.swap HV'.out; clear hT3 hk3 K2)
            | (go_at_call 8; refine ha2.mono ?_; rintro e w4 ⟨v4, rfl, hr4, hT4, hb4⟩; clear ha2; have K4 := Lib.hid (K3.out.below hb4); have R4 := Lib.hid hr4.reads; have ha3 := twin_acc hT4.swap HV'.out; clear hr4 hT4 K3)
            | (go_at_call 8; refine ha3.mono ?_; rintro e w5 ⟨v5, rfl, hr5, hT5, hb5⟩; clear ha3; have K5 := Lib.hid (K4.out.below hb5); have hs1 := same_any w5 v4 v5 _ _ (R4.out.below hb5) hr5.reads hl2; rw [decide_eq_true rfl] at hs1; have T5 := Lib.hid hT5.swap; clear hr5 hT5 K4 R4)
            | (go_at_call 14; refine hs1.mono ?_; rintro e w6 ⟨rfl, hb6⟩; clear hs1; have K6 := Lib.hid (K5.out.below hb6); have ha4 := twin_acc (T5.out.below hb6) HV'.out; clear K5 T5)
            | (go_at_call 8; refine ha4.mono ?_; rintro e w7 ⟨v7, rfl, hr7, hT7, hb7⟩; clear ha4; have hs2 := same_any w7 v1 v7 _ _ (K6.out.below hb7).reads hr7.reads hl1; rw [← HS.out] at hs2; have T7 := Lib.hid hT7; clear hr7 hT7 K6)
            | (go_at_call 14; refine hs2.mono ?_; rintro e w8 ⟨rfl, hb8⟩; clear hs2; obtain ⟨c0, c1, c2, c3, c4, c5⟩ := CELL.out w8 (T7.out.bel.trans (hb8.mono T7.out.bel.size)); have T8 := Lib.hid (T7.out.below hb8); clear T7))
          go_simp
          go_wp2
          all_goals go_roundw
          all_goals first
            | exact ⟨k + 1, by omega, by go_num, by rw [HPL.out, ← HL.out, ← HAc.out]; exact T8.out.forget (fun x h => h.elim)⟩
            | (simp [intOf]; omega)
        · have e1 : (E == 0) = false := by simpa using e0
          clear e0
          go_wp2_with (first
            | (go_at_call 8; refine ha1.mono ?_; rintro e w1 ⟨v1, rfl, hr1, hT1, hb1⟩; clear ha1; obtain ⟨c0, c1, c2, c3, c4, c5⟩ := CELL.out w1 hT1.bel; have K1 := Lib.hid (hr1.kreads (fun x => False ∨ wr.heap.size ≤ x ∧ x < w1.heap.size) (fun x h1 h2 => .inr ⟨h1, h2⟩)); have hact1 := twin_act hT1 HV.out who a ask hsz; unfold actV at hact1; rw [HE'.out] at hact1; clear hr1 hT1)
            | (go_at_call 16; refine hact1.mono ?_; rintro e w2 ⟨rfl, hT2, hk2⟩; clear hact1 c0 c1 c2 c3 c4 c5; obtain ⟨c0, c1, c2, c3, c4, c5⟩ := CELL.out w2 hT2.bel; have K2 := Lib.hid (hk2 _ _ K1.out); have hact2 := twin_act hT2.swap HV.out who a ask hsz; unfold actV at hact2; rw [HE'.out] at hact2; clear hT2 hk2 K1)
            | (go_at_call 16; refine hact2.mono ?_; rintro e w3 ⟨rfl, hT3, hk3⟩; clear hact2 c0 c1 c2 c3 c4 c5; have K3 := Lib.hid (hk3 _ _ K2.out); have ha2 := twin_acc hT3.swap HV'.out; clear hT3 hk3 K2)
            | (go_at_call 8; refine ha2.mono ?_; rintro e w4 ⟨v4, rfl, hr4, hT4, hb4⟩; clear ha2; have K4 := Lib.hid (K3.out.below hb4); have R4 := Lib.hid hr4.reads; have ha3 := twin_acc hT4.swap HV'.out; clear hr4 hT4 K3)
            | (go_at_call 8; refine ha3.mono ?_; rintro e w5 ⟨v5, rfl, hr5, hT5, hb5⟩; clear ha3; have K5 := Lib.hid (K4.out.below hb5); have hs1 := same_any w5 v4 v5 _ _ (R4.out.below hb5) hr5.reads hl2; rw [decide_eq_true rfl] at hs1; have T5 := Lib.hid hT5.swap; clear hr5 hT5 K4 R4)
            | (go_at_call 14; refine hs1.mono ?_; rintro e w6 ⟨rfl, hb6⟩; clear hs1; have K6 := Lib.hid (K5.out.below hb6); have ha4 := twin_acc (T5.out.below hb6) HV'.out; clear K5 T5)
            | (go_at_call 8; refine ha4.mono ?_; rintro e w7 ⟨v7, rfl, hr7, hT7, hb7⟩; clear ha4; have hs2 := same_any w7 v1 v7 _ _ (K6.out.below hb7).reads hr7.reads hl1; rw [← HS.out] at hs2; have T7 := Lib.hid hT7; clear hr7 hT7 K6)
            | (go_at_call 14; refine hs2.mono ?_; rintro e w8 ⟨rfl, hb8⟩; clear hs2; obtain ⟨c0, c1, c2, c3, c4, c5⟩ := CELL.out w8 (T7.out.bel.trans (hb8.mono T7.out.bel.size)); have T8 := Lib.hid (T7.out.below hb8); clear T7))
          go_simp
          go_wp2
          all_goals go_roundw
          all_goals first
            | exact ⟨k + 1, by omega, by go_num, by rw [HPL.out, ← HL.out, ← HAc.out]; exact T8.out.forget (fun x h => h.elim)⟩
            | (simp [intOf]; omega)
      · have k4 : (a.kind == 3) = false := by simpa using k3
        clear k3
        by_cases e0 : E = 0
        · subst e0
          go_wp2_with (first
            | (go_at_call 8; refine ha1.mono ?_; rintro e w1 ⟨v1, rfl, hr1, hT1, hb1⟩; clear ha1; obtain ⟨c0, c1, c2, c3, c4, c5⟩ := CELL.out w1 hT1.bel; have K1 := Lib.hid (hr1.kreads (fun x => False ∨ wr.heap.size ≤ x ∧ x < w1.heap.size) (fun x h1 h2 => .inr ⟨h1, h2⟩)); have hact1 := twin_act hT1 HV.out who a ask hsz; unfold actV at hact1; rw [HE'.out] at hact1; clear hr1 hT1)
            | (go_at_call 16; refine hact1.mono ?_; rintro e w2 ⟨rfl, hT2, hk2⟩; clear hact1 c0 c1 c2 c3 c4 c5; obtain ⟨c0, c1, c2, c3, c4, c5⟩ := CELL.out w2 hT2.bel; have K2 := Lib.hid (hk2 _ _ K1.out); have hact2 := twin_act hT2.swap HV.out who a ask hsz; unfold actV at hact2; rw [HE'.out] at hact2; clear hT2 hk2 K1)
            | (go_at_call 16; refine hact2.mono ?_; rintro e w3 ⟨rfl, hT3, hk3⟩; clear hact2 c0 c1 c2 c3 c4 c5; have K3 := Lib.hid (hk3 _ _ K2.out); have ha2 := twin_acc hT3.swap HV'.out; clear hT3 hk3 K2)
            | (go_at_call 8; refine ha2.mono ?_; rintro e w4 ⟨v4, rfl, hr4, hT4, hb4⟩; clear ha2; have K4 := Lib.hid (K3.out.below hb4); have R4 := Lib.hid hr4.reads; have ha3 := twin_acc hT4.swap HV'.out; clear hr4 hT4 K3)
            | (go_at_call 8; refine ha3.mono ?_; rintro e w5 ⟨v5, rfl, hr5, hT5, hb5⟩; clear ha3; have K5 := Lib.hid (K4.out.below hb5); have hs1 := same_any w5 v4 v5 _ _ (R4.out.below hb5) hr5.reads hl2; rw [decide_eq_true rfl] at hs1; have T5 := Lib.hid hT5.swap; clear hr5 hT5 K4 R4)
            | (go_at_call 14; refine hs1.mono ?_; rintro e w6 ⟨rfl, hb6⟩; clear hs1; have K6 := Lib.hid (K5.out.below hb6); have ha4 := twin_acc (T5.out.below hb6) HV'.out; clear K5 T5)
            | (go_at_call 8; refine ha4.mono ?_; rintro e w7 ⟨v7, rfl, hr7, hT7, hb7⟩; clear ha4; have hs2 := same_any w7 v1 v7 _ _ (K6.out.below hb7).reads hr7.reads hl1; rw [← HS.out] at hs2; have T7 := Lib.hid hT7; clear hr7 hT7 K6)
            | (go_at_call 14; refine hs2.mono ?_; rintro e w8 ⟨rfl, hb8⟩; clear hs2; obtain ⟨c0, c1, c2, c3, c4, c5⟩ := CELL.out w8 (T7.out.bel.trans (hb8.mono T7.out.bel.size)); have T8 := Lib.hid (T7.out.below hb8); clear T7))
          go_simp
          go_wp2
          all_goals go_roundw
          all_goals first
            | exact ⟨k + 1, by omega, by go_num, by rw [HPL.out, ← HL.out, ← HAc.out]; exact T8.out.forget (fun x h => h.elim)⟩
            | (simp [intOf]; omega)
        · have hst : Hid (S = true) := by show S = true; rw [HS.out, HREF.out (.inl e0)]; exact decide_eq_true rfl
          have hst' := hst.out
          clear hst
          subst hst'
          have e1 : (E == 0) = false := by simpa using e0
          clear e0
          go_wp2_with (first
            | (go_at_call 8; refine ha1.mono ?_; rintro e w1 ⟨v1, rfl, hr1, hT1, hb1⟩; clear ha1; obtain ⟨c0, c1, c2, c3, c4, c5⟩ := CELL.out w1 hT1.bel; have K1 := Lib.hid (hr1.kreads (fun x => False ∨ wr.heap.size ≤ x ∧ x < w1.heap.size) (fun x h1 h2 => .inr ⟨h1, h2⟩)); have hact1 := twin_act hT1 HV.out who a ask hsz; unfold actV at hact1; rw [HE'.out] at hact1; clear hr1 hT1)
            | (go_at_call 16; refine hact1.mono ?_; rintro e w2 ⟨rfl, hT2, hk2⟩; clear hact1 c0 c1 c2 c3 c4 c5; obtain ⟨c0, c1, c2, c3, c4, c5⟩ := CELL.out w2 hT2.bel; have K2 := Lib.hid (hk2 _ _ K1.out); have hact2 := twin_act hT2.swap HV.out who a ask hsz; unfold actV at hact2; rw [HE'.out] at hact2; clear hT2 hk2 K1)
            | (go_at_call 16; refine hact2.mono ?_; rintro e w3 ⟨rfl, hT3, hk3⟩; clear hact2 c0 c1 c2 c3 c4 c5; have K3 := Lib.hid (hk3 _ _ K2.out); have ha2 := twin_acc hT3.swap HV'.out; clear hT3 hk3 K2)
            | (go_at_call 8; refine ha2.mono ?_; rintro e w4 ⟨v4, rfl, hr4, hT4, hb4⟩; clear ha2; have K4 := Lib.hid (K3.out.below hb4); have R4 := Lib.hid hr4.reads; have ha3 := twin_acc hT4.swap HV'.out; clear hr4 hT4 K3)
            | (go_at_call 8; refine ha3.mono ?_; rintro e w5 ⟨v5, rfl, hr5, hT5, hb5⟩; clear ha3; have K5 := Lib.hid (K4.out.below hb5); have hs1 := same_any w5 v4 v5 _ _ (R4.out.below hb5) hr5.reads hl2; rw [decide_eq_true rfl] at hs1; have T5 := Lib.hid hT5.swap; clear hr5 hT5 K4 R4)
            | (go_at_call 14; refine hs1.mono ?_; rintro e w6 ⟨rfl, hb6⟩; clear hs1; have K6 := Lib.hid (K5.out.below hb6); have ha4 := twin_acc (T5.out.below hb6) HV'.out; clear K5 T5)
            | (go_at_call 8; refine ha4.mono ?_; rintro e w7 ⟨v7, rfl, hr7, hT7, hb7⟩; clear ha4; have hs2 := same_any w7 v1 v7 _ _ (K6.out.below hb7).reads hr7.reads hl1; rw [← HS.out] at hs2; have T7 := Lib.hid hT7; clear hr7 hT7 K6)
            | (go_at_call 14; refine hs2.mono ?_; rintro e w8 ⟨rfl, hb8⟩; clear hs2; obtain ⟨c0, c1, c2, c3, c4, c5⟩ := CELL.out w8 (T7.out.bel.trans (hb8.mono T7.out.bel.size)); have T8 := Lib.hid (T7.out.below hb8); clear T7))
          go_simp
          go_wp2
          all_goals go_roundw
          all_goals first
            | exact ⟨k + 1, by omega, by go_num, by rw [HPL.out, ← HL.out, ← HAc.out]; exact T8.out.forget (fun x h => h.elim)⟩
            | (simp [intOf]; omega)
    · go_wp2
      go_ret
      exact ⟨rfl, hT.bel⟩
end Go.Proofs.YthbiepgpflpfoaaDoor
