/- The laws' own helpers: answer, played, sameAccounts. -/
import Derived.Test.YthbiepgpflpfoaaDoorAccounts
import Derived.Test.YthbiepgpflpfoaaDoorLaw
namespace Go.Proofs.YthbiepgpflpfoaaDoor
open Go.RowKit Go.Shelf
set_option linter.unusedVariables false
set_option linter.unusedSimpArgs false

theorem MutPost.of_below {F : Nat → Prop} {cb : Nat} {L : List Acct} {v : Value} {w w1 : World} (hb : Below w.heap.size w w1) {e : Ending} {w' : World} (h : MutPost F cb L v w1 e w') : MutPost F cb L v w e w' := by
  obtain ⟨he, F', h1, h2, h3⟩ := h
  refine ⟨he, F', h1, (Ch.of_below hb).trans' h2, fun k hk => ?_⟩
  rcases h3 k hk with h | h
  · exact .inl h
  · have := hb.size
    exact .inr (by omega)

/-- An act's cells. -/
def actV (who : Int) (a : ActV) (ask : ByteArray) : Value := .agg #[.int .i64 who, .int .i64 a.kind, .int .i64 a.typ, .int .i64 a.day, .string a.name, .string ask]

set_option maxHeartbeats 2000000 in
set_option maxRecDepth 100000 in
theorem answer_any {w : World} {F : Nat → Prop} {cb : Nat} {L : List Acct} (h : ChartAt w F cb L) (hv : Valid L) (who : Int) (a : ActV) (ask : ByteArray) (hsz : a.name.size ≤ 140737488355328) :
    Calls Tryd.prog 16 #[.pointer (some ⟨cb, 0, none⟩), actV who a ask] w (MutPost F cb (actL L a) (.int .i64 (actE L a)) w) := by
  unfold actV actL actE
  have hb1 : ∀ o, Below w.heap.size w (w.alloc o) := fun o => (Below.refl _ _).alloc (Nat.le_refl _) o
  have hop := fun o => Open_any (h.below (hb1 o)) hv a.name a.typ a.day hsz
  have hcl := fun o => Close_any (h.below (hb1 o)) hv a.name
  have hma := fun o => May_any (h.below (hb1 o)) a.name a.day
  have H := Lib.hid h
  have HB := Lib.hid hb1
  clear h hb1
  by_cases k1 : a.kind = 1
  · rw [if_pos k1, if_pos k1, k1]
    go_enter Tryd.func16, Tryd.ntmps16
    go_wp2_with (go_at_call 12; refine (hop _).mono ?_; rintro e w' ⟨rfl, hm⟩; have HM := Lib.hid hm; clear hm)
    go_ret
    exact MutPost.of_below (HB.out _) ⟨rfl, HM.out⟩
  · rw [if_neg k1, if_neg k1]
    by_cases k2 : a.kind = 2
    · rw [if_pos k2, if_pos k2, k2]
      go_enter Tryd.func16, Tryd.ntmps16
      go_wp2_with (go_at_call 13; refine (hcl _).mono ?_; rintro e w' ⟨rfl, hm⟩; have HM := Lib.hid hm; clear hm)
      go_ret
      exact MutPost.of_below (HB.out _) ⟨rfl, HM.out⟩
    · rw [if_neg k2, if_neg k2]
      by_cases k3 : a.kind = 3
      · rw [if_pos k3, k3]
        go_enter Tryd.func16, Tryd.ntmps16
        go_wp2_with (go_at_call 21; refine (hma _).mono ?_; rintro e w' ⟨rfl, hw⟩; subst hw)
        go_ret
        exact ⟨rfl, F, H.out.below (HB.out _), Ch.of_below (HB.out _), fun k hk => .inl hk⟩
      · rw [if_neg k3]
        have b1 : (a.kind == 1) = false := by simpa using k1
        have b2 : (a.kind == 2) = false := by simpa using k2
        have b3 : (a.kind == 3) = false := by simpa using k3
        clear hop hcl hma
        go_enter Tryd.func16, Tryd.ntmps16
        go_wp2
        go_ret
        exact ⟨rfl, F, H.out.below (HB.out _), Ch.of_below (HB.out _), fun k hk => .inl hk⟩
/-- A row of acts lies somewhere in memory. -/
structure ActsAt (w : World) (v : Value) (acts : List ActV) : Prop where
  len : acts.length ≤ 1048576
  ex : ∃ (A : Option Addr) (c : Nat), v = .slice A acts.length c ∧ ∀ j (hj : j < acts.length), ∃ (ad : Addr) (who : Int) (ask : ByteArray), A = some ad ∧ ad.block < w.heap.size ∧ acts[j].name.size ≤ 140737488355328 ∧
    ∀ i u, [Value.int .i64 who, .int .i64 acts[j].kind, .int .i64 acts[j].typ, .int .i64 acts[j].day, .string acts[j].name, .string ask][i]? = some u → w.cell? ((ad.add (j * 6)).add i) = some u

theorem ActsAt.below {w w' : World} {v : Value} {acts : List ActV} (h : ActsAt w v acts) (hb : Below w.heap.size w w') : ActsAt w' v acts := by
  obtain ⟨hl, A, c, e, hA⟩ := h
  refine ⟨hl, A, c, e, fun j hj => ?_⟩
  obtain ⟨ad, who, ask, e1, h1, h2, h3⟩ := hA j hj
  exact ⟨ad, who, ask, e1, Nat.lt_of_lt_of_le h1 hb.size, h2, fun i u hu => (hb.cell (p := (ad.add (j * 6)).add i) (by rw [block_add, block_add]; exact h1)).trans (h3 i u hu)⟩

structure PlayInv (w : World) (acts : List ActV) (cb : Nat) (i : Value) (wr : World) (k : Nat) : Prop where
  le : k ≤ acts.length
  at_ : i = .int .i64 (k : Int)
  chart : ∃ F, ChartAt wr F cb (playL [] (acts.take k)) ∧ ∀ x, F x → w.heap.size ≤ x
  bel : Below w.heap.size w wr

set_option maxHeartbeats 2000000 in
set_option maxRecDepth 100000 in
theorem played_any (w : World) (v : Value) (acts : List ActV) (hA : ActsAt w v acts) :
    Calls Tryd.prog 7 #[v] w fun e w' => ∃ cb F, e = .returned (ptrV cb) ∧ ChartAt w' F cb (playL [] acts) ∧ (∀ x, F x → w.heap.size ≤ x) ∧ Below w.heap.size w w' := by
  have hnew := New_any w
  have HACT := Lib.hid hA
  obtain ⟨hlen, A, c, rfl, hcells⟩ := hA
  have HC := Lib.hid hcells
  clear hcells
  go_enter Tryd.func7, Tryd.ntmps7
  go_wp2_with (go_at_call 9; refine hnew.mono ?_; rintro e w1 ⟨rfl, hch, hs1, hb1⟩; have HCH := Lib.hid hch; clear hch)
  obtain ⟨cb, hcb⟩ : ∃ cb, cb = w.heap.size + 1 := ⟨_, rfl⟩
  rw [← hcb]
  have HCB := Lib.hid hcb
  clear hcb
  unfold ptrV
  go_loopw [4] (fun i wr => ∃ k, PlayInv w acts cb i wr k) (fun i _ => acts.length - (intOf i).toNat)
  case atStart => exact ⟨0, Nat.zero_le _, rfl, ⟨fun k => w.heap.size ≤ k ∧ k < w.heap.size + 2, by have := HCH.out; rw [← HCB.out] at this; simpa [playL] using this, fun x hx => hx.1⟩, hb1⟩
  case round =>
    obtain ⟨k, hk, rfl, ⟨F, hch, hF⟩, hbel⟩ := hrel
    by_cases hlt : k < acts.length
    · obtain ⟨ad, who, ask, rfl, hab, hsz, hcs⟩ := HC.out k hlt
      have hcw := fun i u hu => (hbel.cell (p := (ad.add (k * 6)).add i) (by rw [block_add, block_add]; exact hab)).trans (hcs i u hu)
      have c0 : wr.cell? (ad.add (k * 6)) = some (.int .i64 who) := hcw 0 _ rfl
      have c1 : wr.cell? ⟨(ad.add (k * 6)).block, (ad.add (k * 6)).off + 1, none⟩ = some (.int .i64 acts[k].kind) := hcw 1 _ rfl
      have c2 : wr.cell? ⟨(ad.add (k * 6)).block, (ad.add (k * 6)).off + 2, none⟩ = some (.int .i64 acts[k].typ) := hcw 2 _ rfl
      have c3 : wr.cell? ⟨(ad.add (k * 6)).block, (ad.add (k * 6)).off + 3, none⟩ = some (.int .i64 acts[k].day) := hcw 3 _ rfl
      have c4 : wr.cell? ⟨(ad.add (k * 6)).block, (ad.add (k * 6)).off + 4, none⟩ = some (.string acts[k].name) := hcw 4 _ rfl
      have c5 : wr.cell? ⟨(ad.add (k * 6)).block, (ad.add (k * 6)).off + 5, none⟩ = some (.string ask) := hcw 5 _ rfl
      clear hcw
      have hans := answer_any hch (play_valid (acts.take k) valid_nil) who acts[k] ask hsz
      unfold actV at hans
      have HPL := Lib.hid (playL_take [] acts k hlt)
      have HF := Lib.hid hF
      have HCHk := Lib.hid hch
      clear hcs hsz hF hch
      go_wp2_with (go_at_call 16; refine hans.mono ?_; rintro e w2 ⟨rfl, F', h2, h3, h4⟩; have H2 := Lib.hid (And.intro h2 (And.intro h3 h4)); clear h2 h3 h4)
      go_roundw
      case rel =>
        obtain ⟨h2, h3, h4⟩ := H2.out
        rw [← HPL.out] at h2
        exact ⟨k + 1, by omega, by go_num, ⟨F', h2, fun x hx => by rcases h4 x hx with h | h; exact HF.out x h; have := hbel.size; omega⟩, hbel.trans (h3.toBelow hbel.size HF.out)⟩
      case measure => simp [intOf]; omega
    · go_wp2
      obtain rfl : k = acts.length := by omega
      rw [List.take_length] at hch
      go_ret
      exact ⟨cb, F, rfl, hch, hF, hbel⟩
end Go.Proofs.YthbiepgpflpfoaaDoor
