/- first: what must come whatever is asked. -/
import Derived.Test.YthbiepgpflpfoaaDoorSame
import Derived.KernelRfl
namespace Go.Proofs.YthbiepgpflpfoaaDoor
open Go.RowKit Go.Shelf
set_option linter.unusedVariables false
set_option linter.unusedSimpArgs false

def nA : ByteArray := ⟨#[65]⟩
def nAB : ByteArray := ⟨#[65, 58, 66]⟩
def L1 : List Acct := [⟨nA, 1, 5, false⟩]
def L2 : List Acct := [⟨nA, 1, 5, false⟩, ⟨nAB, 1, 6, false⟩]

theorem f1E : openE [] nA 1 5 = 0 := by kernel_rfl
theorem f1L : openL [] nA 1 5 = L1 := by kernel_rfl
theorem f2E : openE L1 nAB 0 6 = 0 := by kernel_rfl
theorem f2L : openL L1 nAB 0 6 = L2 := by kernel_rfl
theorem f3E : mayE L2 nAB 6 = 0 := by kernel_rfl
theorem f4E : closeE L2 nA = 65 := by kernel_rfl
theorem f4L : closeL L2 nA = L2 := by kernel_rfl
theorem f5K : kidsL L2 nA = [⟨nAB, 1, 6, false⟩] := by kernel_rfl
theorem v1 : Valid L1 := f1L ▸ open_valid valid_nil nA 1 5
theorem v2 : Valid L2 := f2L ▸ open_valid v1 nAB 0 6

theorem row2 {B : Nat} {w : World} {v : Value} (h : AccRow B w L2 v) : ∃ b c, v = .slice (some ⟨b, 0, none⟩) 2 c ∧ RowA w b L2 := by
  cases h with
  | nil h => cases h
  | row b c hb h => exact ⟨b, c, rfl, h⟩
theorem row1 {B : Nat} {w : World} {v : Value} {a : Acct} (h : w.ownsRow B 9 1 v [a].length (namesV [a])) : ∃ b c, v = .slice (some ⟨b, 0, none⟩) 1 c ∧ w.cell? ⟨b, 0, none⟩ = some (.string a.name) := by
  obtain ⟨g, cap, rfl⟩ := ownsRow_succ h
  exact ⟨g, cap, rfl, h.cells (g := g) rfl 0 _ rfl⟩

set_option maxHeartbeats 4000000 in
set_option maxRecDepth 100000 in
theorem first_any (w : World) : Calls Tryd.prog 6 #[] w fun e w' => e = .returned (.bool true) ∧ Below w.heap.size w w' := by
  have hnew := New_any w
  have q27 : ∀ (w : World) (p : Option Addr), (binOp .eql 27 (.pointer p) (.pointer none)).run Tryd.prog w = .ok (.bool p.isNone) w := fun w p => run_eql_pointer_nil w _ p (by kernel_rfl)
  go_enter Tryd.func6, Tryd.ntmps6
  go_wp2_with (go_at_call 9; refine hnew.mono ?_; rintro e w1 ⟨rfl, hch, hs1, hb1⟩; have HCH := Lib.hid hch; clear hch)
  obtain ⟨cb, hcb⟩ : ∃ cb, cb = w.heap.size + 1 := ⟨_, rfl⟩
  rw [← hcb]
  have h1 : ChartAt w1 (fun k => w.heap.size ≤ k ∧ k < w.heap.size + 2) cb [] := by have := HCH.out; rw [← hcb] at this; exact this
  clear hcb
  have ho1 := Open_any h1 valid_nil nA 1 5 (by decide)
  rw [f1E, f1L] at ho1
  unfold ptrV
  have e1 : nA = ⟨#[65]⟩ := rfl
  have e2 : nAB = ⟨#[65, 58, 66]⟩ := rfl
  rw [e1] at ho1
  clear e1 e2 h1
  go_wp2
  go_simp
  go_wp2_with (first
    | (go_at_call 12; refine ho1.mono ?_; rintro e w2 ⟨rfl, F2, h2, h3, h4⟩; clear ho1; have ho2 := Open_any h2 v1 nAB 0 6 (by decide); rw [f2E, f2L] at ho2; have H2 := Lib.hid (And.intro h3 h4); clear h2 h3 h4)
    | (go_at_call 12; refine ho2.mono ?_; rintro e w3 ⟨rfl, F3, h2, h3, h4⟩; clear ho2; have hm3 := May_any h2 nAB 6; rw [f3E] at hm3; have hc3 := Close_any h2 v2 nA; rw [f4E, f4L] at hc3; have H3 := Lib.hid (And.intro h3 h4); clear h2 h3 h4)
    | (go_at_call 21; refine hm3.mono ?_; rintro e w4 ⟨rfl, hw4⟩; subst hw4; clear hm3)
    | (go_at_call 13; refine hc3.mono ?_; rintro e w5 ⟨rfl, F5, h2, h3, h4⟩; clear hc3; have ha5 := Accounts_any h2 v2; have H5 := Lib.hid h2; have H5' := Lib.hid (And.intro h3 h4); clear h2 h3 h4)
    | (go_at_call 8; refine ha5.mono ?_; rintro e w6 ⟨va, rfl, hr6, hb6⟩; clear ha5; obtain ⟨ba, ca, rfl, hba⟩ := row2 hr6; have hk6 := Kids_any (H5.out.below hb6) nA; rw [f5K] at hk6; have H6 := Lib.hid (And.intro hr6 hb6); clear hr6 hb6)
    | (go_at_call 18; refine hk6.mono ?_; rintro e w7 ⟨vk, rfl, hr7, hb7⟩; clear hk6; obtain ⟨bk, ck, rfl, hbk⟩ := row1 hr7; have hba7 := hba.below hb7; have p0 : w7.cell? ⟨ba, 4, none⟩ = some (.string ⟨#[65, 58, 66]⟩) := hba7.c0 1 (by decide); have p1 : w7.cell? ⟨ba, 5, none⟩ = some (.int .i64 1) := hba7.c1 1 (by decide); have p2 : w7.cell? ⟨ba, 6, none⟩ = some (.int .i64 6) := hba7.c2 1 (by decide); have p3 : w7.cell? ⟨ba, 7, none⟩ = some (.bool false) := hba7.c3 1 (by decide); have hbk' : w7.cell? ⟨bk, 0, none⟩ = some (.string ⟨#[65, 58, 66]⟩) := hbk; clear hbk; have H7 := Lib.hid (And.intro hr7 hb7); clear hr7 hb7 hba hba7))
  go_ret
  refine ⟨rfl, ?_⟩
  obtain ⟨a2, b2⟩ := H2.out
  obtain ⟨a3, b3⟩ := H3.out
  obtain ⟨a5, b5⟩ := H5'.out
  have z1 := hb1.size
  have z2 := a2.size
  have z3 := a3.size
  have z5 := a5.size
  have z6 := H6.out.2.size
  have g2 : ∀ x, F2 x → w.heap.size ≤ x := fun x hx => by rcases b2 x hx with h | h <;> omega
  have g3 : ∀ x, F3 x → w.heap.size ≤ x := fun x hx => by
    rcases b3 x hx with h | h
    · exact g2 x h
    · omega
  have c2 := hb1.trans (a2.toBelow hb1.size fun x hx => hx.1)
  have c3 := c2.trans (a3.toBelow c2.size g2)
  have c5 := c3.trans (a5.toBelow c3.size g3)
  have c6 := c5.trans (H6.out.2.mono c5.size)
  exact c6.trans (H7.out.2.mono c6.size)
end Go.Proofs.YthbiepgpflpfoaaDoor
