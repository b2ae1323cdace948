/- May and Find of a chart. -/
import Derived.Test.YthbiepgpflpfoaaDoorChart
namespace Go.Proofs.YthbiepgpflpfoaaDoor
open Go.RowKit
set_option linter.unusedVariables false
set_option linter.unusedSimpArgs false

theorem cell_of_blk {w : World} {b i : Nat} {cs : Array Value} {t : TypeId} {fr : Nat × Nat} (h : w.heap[b]? = some (.cells cs t fr)) : w.cell? ⟨b, i, none⟩ = cs[i]? := cell_of_row w b i cs t fr h

theorem May_none (cb mb : Nat) (name : ByteArray) (day : Int) (w : World) (hc0 : w.cell? ⟨cb, 0, none⟩ = some (.map (some mb)))
    (hlk : Sem.run Tryd.prog (Instr.lookup 56 (.map (some mb)) (.string name) false) w = .ok (.pointer none) w) :
    Calls Tryd.prog 21 #[.pointer (some ⟨cb, 0, none⟩), .string name, .int .i64 day] w fun e w' => e = .returned (.int .i64 61) ∧ w = w' := by
  go_enter Tryd.func21, Tryd.ntmps21
  go_wp2
  go_ret
  exact ⟨rfl, rfl⟩

set_option maxRecDepth 100000 in
theorem May_some (cb mb nb : Nat) (name : ByteArray) (day op : Int) (cl : Bool) (w : World) (hc0 : w.cell? ⟨cb, 0, none⟩ = some (.map (some mb)))
    (hlk : Sem.run Tryd.prog (Instr.lookup 56 (.map (some mb)) (.string name) false) w = .ok (.pointer (some ⟨nb, 0, none⟩)) w)
    (h2 : w.cell? ⟨nb, 2, none⟩ = some (.int .i64 op)) (h3 : w.cell? ⟨nb, 3, none⟩ = some (.bool cl)) :
    Calls Tryd.prog 21 #[.pointer (some ⟨cb, 0, none⟩), .string name, .int .i64 day] w fun e w' => e = .returned (.int .i64 (if cl then 63 else if day < op then 66 else 0)) ∧ w = w' := by
  cases cl
  · by_cases h : day < op
    · go_enter Tryd.func21, Tryd.ntmps21
      go_wp2
      go_ret
      exact ⟨by simp [h], rfl⟩
    · go_enter Tryd.func21, Tryd.ntmps21
      go_wp2
      go_ret
      exact ⟨by simp [h], rfl⟩
  · go_enter Tryd.func21, Tryd.ntmps21
    go_wp2
    go_ret
    exact ⟨rfl, rfl⟩

/-- What May answers. -/
def mayE (L : List Acct) (name : ByteArray) (day : Int) : Int :=
  match findA L name with
  | none => 61
  | some a => if a.closed then 63 else if day < a.opened then 66 else 0

theorem May_any {w : World} {F : Nat → Prop} {cb : Nat} {L : List Acct} (h : ChartAt w F cb L) (name : ByteArray) (day : Int) :
    Calls Tryd.prog 21 #[.pointer (some ⟨cb, 0, none⟩), .string name, .int .i64 day] w fun e w' => e = .returned (.int .i64 (mayE L name day)) ∧ w = w' := by
  obtain ⟨mb, rv, nb, kv, ps, h⟩ := h
  have hlk := h.lookup name
  have hc0 : w.cell? ⟨cb, 0, none⟩ = some (.map (some mb)) := by rw [cell_of_blk h.hC]; rfl
  unfold mayE
  cases hf : findA L name with
  | none =>
    rw [hf] at hlk
    exact May_none cb mb name day w hc0 hlk
  | some a =>
    rw [hf] at hlk
    obtain ⟨ha, rfl⟩ := findA_some hf
    exact May_some cb mb (nb a.name) a.name day a.opened a.closed w hc0 hlk (by rw [cell_of_blk (h.hN a ha)]; rfl) (by rw [cell_of_blk (h.hN a ha)]; rfl)

def accV (a : Acct) : Value := .agg #[.string a.name, .int .i64 a.typ, .int .i64 a.opened, .bool a.closed]
def noA : Acct := ⟨⟨#[]⟩, 0, 0, false⟩

set_option maxRecDepth 100000 in
theorem Find_none (cb mb : Nat) (name : ByteArray) (w : World) (hlt : cb < w.heap.size) (hc0 : w.cell? ⟨cb, 0, none⟩ = some (.map (some mb)))
    (hlk : ∀ o, Sem.run Tryd.prog (Instr.lookup 56 (.map (some mb)) (.string name) false) (w.alloc o) = .ok (.pointer none) (w.alloc o)) :
    Calls Tryd.prog 11 #[.pointer (some ⟨cb, 0, none⟩), .string name] w fun e w' => e = .returned (.tuple #[accV noA, .bool false]) ∧ Below w.heap.size w w' := by
  go_enter Tryd.func11, Tryd.ntmps11
  go_wp2
  refine bodyPost_ret (v := .tuple #[accV noA, .bool false]) (by simp [results, Tryd.results11, go_sem, accV, noA]) rfl ⟨rfl, ?_⟩
  first | exact (Below.refl _ _).alloc (Nat.le_refl _) _ | exact (((((Below.refl _ _).alloc (Nat.le_refl _) _).setCell (Nat.le_refl _) _).setCell (Nat.le_refl _) _).setCell (Nat.le_refl _) _).setCell (Nat.le_refl _) _

set_option maxRecDepth 100000 in
theorem Find_some (cb mb nb : Nat) (a : Acct) (w : World) (hlt : cb < w.heap.size) (hln : nb < w.heap.size) (hc0 : w.cell? ⟨cb, 0, none⟩ = some (.map (some mb)))
    (hlk : ∀ o, Sem.run Tryd.prog (Instr.lookup 56 (.map (some mb)) (.string a.name) false) (w.alloc o) = .ok (.pointer (some ⟨nb, 0, none⟩)) (w.alloc o))
    (h0 : w.cell? ⟨nb, 0, none⟩ = some (.string a.name)) (h1 : w.cell? ⟨nb, 1, none⟩ = some (.int .i64 a.typ)) (h2 : w.cell? ⟨nb, 2, none⟩ = some (.int .i64 a.opened)) (h3 : w.cell? ⟨nb, 3, none⟩ = some (.bool a.closed)) :
    Calls Tryd.prog 11 #[.pointer (some ⟨cb, 0, none⟩), .string a.name] w fun e w' => e = .returned (.tuple #[accV a, .bool true]) ∧ Below w.heap.size w w' := by
  go_enter Tryd.func11, Tryd.ntmps11
  go_wp2
  refine bodyPost_ret (v := .tuple #[accV a, .bool true]) (by simp [results, Tryd.results11, go_sem, accV]) rfl ⟨rfl, ?_⟩
  first | exact (Below.refl _ _).alloc (Nat.le_refl _) _ | exact (((((Below.refl _ _).alloc (Nat.le_refl _) _).setCell (Nat.le_refl _) _).setCell (Nat.le_refl _) _).setCell (Nat.le_refl _) _).setCell (Nat.le_refl _) _

theorem Find_any {w : World} {F : Nat → Prop} {cb : Nat} {L : List Acct} (h : ChartAt w F cb L) (name : ByteArray) :
    Calls Tryd.prog 11 #[.pointer (some ⟨cb, 0, none⟩), .string name] w fun e w' => e = .returned (.tuple #[accV ((findA L name).getD noA), .bool (findA L name).isSome]) ∧ Below w.heap.size w w' := by
  obtain ⟨mb, rv, nb, kv, ps, h⟩ := h
  have hlk := fun o => (h.keep (w' := w.alloc o) fun k _ hk => Below.heap_alloc w o k hk).lookup name
  have hc0 : w.cell? ⟨cb, 0, none⟩ = some (.map (some mb)) := by rw [cell_of_blk h.hC]; rfl
  cases hf : findA L name with
  | none =>
    rw [hf] at hlk
    exact Find_none cb mb name w (heap_lt h.hC) hc0 hlk
  | some a =>
    rw [hf] at hlk
    obtain ⟨ha, rfl⟩ := findA_some hf
    have hn := h.hN a ha
    exact Find_some cb mb (nb a.name) a w (heap_lt h.hC) (heap_lt hn) hc0 hlk (by rw [cell_of_blk hn]; rfl) (by rw [cell_of_blk hn]; rfl) (by rw [cell_of_blk hn]; rfl) (by rw [cell_of_blk hn]; rfl)
end Go.Proofs.YthbiepgpflpfoaaDoor
