/- May and Find of a chart; below: a list of accounts, each with all that is below it behind it; below's iterator; The order of names, and rising lists of accounts; no program; slices.Insert of one node's address into a list of them that the program owns: three roads; order (two accounts by name) and slices.BinarySearchFunc by it; put: one more into a rising list of nodes; Parent; New and Kids of a chart. -/
import Derived.Test.YtgocoofcelggcaaGreatDoorPack1
import Derived.Shelf.Abstract
import Derived.Shelf.RegionOpen
import Derived.WalkKit
import Derived.OwnWalkIn
import Derived.TacticsInMore
import Derived.LoopNIn
import Derived.LoopIn
import Derived.Lib.Bytealg
import Derived.Shelf.Spec.SlicesInsertGrow
import Derived.Maps.AppendAt
import Derived.Deep.RegionLaw
import Derived.Test.YtgocoofcelggcaaGreatDoorShelf
import Derived.BigQuiet
import Derived.Deep.QuietTactic
import Derived.OwnWalk
import Derived.Carry
namespace Go.Proofs.YtgocoofcelggcaaGreatDoor
open Go.RowKit
set_option linter.unusedVariables false
set_option linter.unusedSimpArgs false

theorem cell_of_blk {w : World} {b i : Nat} {cs : Array Value} {t : TypeId} {fr : Nat × Nat} (h : w.heap[b]? = some (.cells cs t fr)) : w.cell? ⟨b, i, none⟩ = cs[i]? := cell_of_row w b i cs t fr h

theorem May_none (cb mb : Nat) (name : ByteArray) (day : Int) (w : World) (hc0 : w.cell? ⟨cb, 0, none⟩ = some (.map (some mb)))
    (hlk : Sem.run Tryz.prog (Instr.lookup 108 (.map (some mb)) (.string name) false) w = .ok (.pointer none) w) :
    Calls Tryz.prog 87 #[.pointer (some ⟨cb, 0, none⟩), .string name, .int .i64 day] w fun e w' => e = .returned (.int .i64 61) ∧ w = w' := by
  go_enter Tryz.func87, Tryz.ntmps87
  go_wp2
  go_ret
  exact ⟨rfl, rfl⟩

set_option maxRecDepth 100000 in
theorem May_some (cb mb nb : Nat) (name : ByteArray) (day op : Int) (cl : Bool) (w : World) (hc0 : w.cell? ⟨cb, 0, none⟩ = some (.map (some mb)))
    (hlk : Sem.run Tryz.prog (Instr.lookup 108 (.map (some mb)) (.string name) false) w = .ok (.pointer (some ⟨nb, 0, none⟩)) w)
    (h2 : w.cell? ⟨nb, 2, none⟩ = some (.int .i64 op)) (h3 : w.cell? ⟨nb, 3, none⟩ = some (.bool cl)) :
    Calls Tryz.prog 87 #[.pointer (some ⟨cb, 0, none⟩), .string name, .int .i64 day] w fun e w' => e = .returned (.int .i64 (if cl then 63 else if day < op then 66 else 0)) ∧ w = w' := by
  cases cl
  · by_cases h : day < op
    · go_enter Tryz.func87, Tryz.ntmps87
      go_wp2
      go_ret
      exact ⟨by simp [h], rfl⟩
    · go_enter Tryz.func87, Tryz.ntmps87
      go_wp2
      go_ret
      exact ⟨by simp [h], rfl⟩
  · go_enter Tryz.func87, Tryz.ntmps87
    go_wp2
    go_ret
    exact ⟨rfl, rfl⟩

/-- What May answers. -/
def mayE (L : List Acct) (name : ByteArray) (day : Int) : Int :=
  match findA L name with
  | none => 61
  | some a => if a.closed then 63 else if day < a.opened then 66 else 0

theorem May_any {w : World} {F : Nat → Prop} {cb : Nat} {L : List Acct} (h : ChartAt w F cb L) (name : ByteArray) (day : Int) :
    Calls Tryz.prog 87 #[.pointer (some ⟨cb, 0, none⟩), .string name, .int .i64 day] w fun e w' => e = .returned (.int .i64 (mayE L name day)) ∧ w = w' := by
  obtain ⟨mb, rv, nb, kv, ps, h⟩ := h
  have hlk := h.lookup name
  have hc0 : w.cell? ⟨cb, 0, none⟩ = some (.map (some mb)) := by rw [cell_of_blk h.hC]; rfl
  unfold mayE
  cases hf : findA L name with
  | none =>
    rw [hf] at hlk
    exact May_none cb mb name day w hc0 hlk
  | some a =>
    rw [hf] at hlk
    obtain ⟨ha, rfl⟩ := findA_some hf
    exact May_some cb mb (nb a.name) a.name day a.opened a.closed w hc0 hlk (by rw [cell_of_blk (h.hN a ha)]; rfl) (by rw [cell_of_blk (h.hN a ha)]; rfl)

def accV (a : Acct) : Value := .agg #[.string a.name, .int .i64 a.typ, .int .i64 a.opened, .bool a.closed]
def noA : Acct := ⟨⟨#[]⟩, 0, 0, false⟩

set_option maxRecDepth 100000 in
theorem Find_none (cb mb : Nat) (name : ByteArray) (w : World) (hlt : cb < w.heap.size) (hc0 : w.cell? ⟨cb, 0, none⟩ = some (.map (some mb)))
    (hlk : ∀ o, Sem.run Tryz.prog (Instr.lookup 108 (.map (some mb)) (.string name) false) (w.alloc o) = .ok (.pointer none) (w.alloc o)) :
    Calls Tryz.prog 46 #[.pointer (some ⟨cb, 0, none⟩), .string name] w fun e w' => e = .returned (.tuple #[accV noA, .bool false]) ∧ Below w.heap.size w w' := by
  go_enter Tryz.func46, Tryz.ntmps46
  go_wp2
  refine bodyPost_ret (v := .tuple #[accV noA, .bool false]) (by simp [results, Tryz.results46, go_sem, accV, noA]) rfl ⟨rfl, ?_⟩
  first | exact (Below.refl _ _).alloc (Nat.le_refl _) _ | exact (((((Below.refl _ _).alloc (Nat.le_refl _) _).setCell (Nat.le_refl _) _).setCell (Nat.le_refl _) _).setCell (Nat.le_refl _) _).setCell (Nat.le_refl _) _

set_option maxRecDepth 100000 in
theorem Find_some (cb mb nb : Nat) (a : Acct) (w : World) (hlt : cb < w.heap.size) (hln : nb < w.heap.size) (hc0 : w.cell? ⟨cb, 0, none⟩ = some (.map (some mb)))
    (hlk : ∀ o, Sem.run Tryz.prog (Instr.lookup 108 (.map (some mb)) (.string a.name) false) (w.alloc o) = .ok (.pointer (some ⟨nb, 0, none⟩)) (w.alloc o))
    (h0 : w.cell? ⟨nb, 0, none⟩ = some (.string a.name)) (h1 : w.cell? ⟨nb, 1, none⟩ = some (.int .i64 a.typ)) (h2 : w.cell? ⟨nb, 2, none⟩ = some (.int .i64 a.opened)) (h3 : w.cell? ⟨nb, 3, none⟩ = some (.bool a.closed)) :
    Calls Tryz.prog 46 #[.pointer (some ⟨cb, 0, none⟩), .string a.name] w fun e w' => e = .returned (.tuple #[accV a, .bool true]) ∧ Below w.heap.size w w' := by
  go_enter Tryz.func46, Tryz.ntmps46
  go_wp2
  refine bodyPost_ret (v := .tuple #[accV a, .bool true]) (by simp [results, Tryz.results46, go_sem, accV]) rfl ⟨rfl, ?_⟩
  first | exact (Below.refl _ _).alloc (Nat.le_refl _) _ | exact (((((Below.refl _ _).alloc (Nat.le_refl _) _).setCell (Nat.le_refl _) _).setCell (Nat.le_refl _) _).setCell (Nat.le_refl _) _).setCell (Nat.le_refl _) _

theorem Find_any {w : World} {F : Nat → Prop} {cb : Nat} {L : List Acct} (h : ChartAt w F cb L) (name : ByteArray) :
    Calls Tryz.prog 46 #[.pointer (some ⟨cb, 0, none⟩), .string name] w fun e w' => e = .returned (.tuple #[accV ((findA L name).getD noA), .bool (findA L name).isSome]) ∧ Below w.heap.size w w' := by
  obtain ⟨mb, rv, nb, kv, ps, h⟩ := h
  have hlk := fun o => (h.keep (w' := w.alloc o) fun k _ hk => Below.heap_alloc w o k hk).lookup name
  have hc0 : w.cell? ⟨cb, 0, none⟩ = some (.map (some mb)) := by rw [cell_of_blk h.hC]; rfl
  cases hf : findA L name with
  | none =>
    rw [hf] at hlk
    exact Find_none cb mb name w (heap_lt h.hC) hc0 hlk
  | some a =>
    rw [hf] at hlk
    obtain ⟨ha, rfl⟩ := findA_some hf
    have hn := h.hN a ha
    exact Find_some cb mb (nb a.name) a w (heap_lt h.hC) (heap_lt hn) hc0 hlk (by rw [cell_of_blk hn]; rfl) (by rw [cell_of_blk hn]; rfl) (by rw [cell_of_blk hn]; rfl) (by rw [cell_of_blk hn]; rfl)
end Go.Proofs.YtgocoofcelggcaaGreatDoor
namespace Go.Proofs.YtgocoofcelggcaaGreatDoor
open Go.RowKit Go.Shelf
set_option linter.unusedVariables false
set_option linter.unusedSimpArgs false
attribute [local go_sem] Oper.semAt_some

/-- A list of accounts, each with all below it behind it, so many steps deep. -/
def preL (L : List Acct) : Nat → List Acct → List Acct
  | 0, _ => []
  | d + 1, l => l.flatMap fun a => a :: preL L d (kidsA L a.name)

/-- A row of pointers to accounts lies below n₀. -/
structure RowOK (n₀ : Nat) (w : World) (nb : ByteArray → Nat) (v : Value) (l : List Acct) : Prop where
  ex : ∃ A c, v = .slice A l.length c ∧ ∀ j (hj : j < l.length), ∃ ad, A = some ad ∧ ad.block < n₀ ∧ w.cell? (ad.add j) = some (ptrV (nb l[j].name))

structure ForestAt (n₀ : Nat) (w : World) (nb : ByteArray → Nat) (kv : ByteArray → Value) (L : List Acct) : Prop where
  lt : ∀ a ∈ L, nb a.name < n₀
  c0 : ∀ a ∈ L, w.cell? ⟨nb a.name, 0, none⟩ = some (.string a.name)
  c1 : ∀ a ∈ L, w.cell? ⟨nb a.name, 1, none⟩ = some (.int .i64 a.typ)
  c2 : ∀ a ∈ L, w.cell? ⟨nb a.name, 2, none⟩ = some (.int .i64 a.opened)
  c3 : ∀ a ∈ L, w.cell? ⟨nb a.name, 3, none⟩ = some (.bool a.closed)
  c4 : ∀ a ∈ L, w.cell? ⟨nb a.name, 4, none⟩ = some (kv a.name)
  kids : ∀ a ∈ L, RowOK n₀ w nb (kv a.name) (kidsA L a.name)

theorem block_add (ad : Addr) (j : Nat) : (ad.add j).block = ad.block := by unfold Addr.add; split <;> rfl

theorem RowOK.below {n₀ : Nat} {w w' : World} {nb : ByteArray → Nat} {v : Value} {l : List Acct} (h : RowOK n₀ w nb v l) (hb : Below n₀ w w') : RowOK n₀ w' nb v l := by
  obtain ⟨A, c, e, hA⟩ := h
  refine ⟨A, c, e, fun j hj => ?_⟩
  obtain ⟨ad, h1, h2, h3⟩ := hA j hj
  exact ⟨ad, h1, h2, (hb.cell (p := ad.add j) (by rw [block_add]; exact h2)).trans h3⟩
theorem ForestAt.below {n₀ : Nat} {w w' : World} {nb : ByteArray → Nat} {kv : ByteArray → Value} {L : List Acct} (h : ForestAt n₀ w nb kv L) (hb : Below n₀ w w') : ForestAt n₀ w' nb kv L where
  lt := h.lt
  c0 := fun a ha => (hb.cell (p := ⟨nb a.name, 0, none⟩) (h.lt a ha)).trans (h.c0 a ha)
  c1 := fun a ha => (hb.cell (p := ⟨nb a.name, 1, none⟩) (h.lt a ha)).trans (h.c1 a ha)
  c2 := fun a ha => (hb.cell (p := ⟨nb a.name, 2, none⟩) (h.lt a ha)).trans (h.c2 a ha)
  c3 := fun a ha => (hb.cell (p := ⟨nb a.name, 3, none⟩) (h.lt a ha)).trans (h.c3 a ha)
  c4 := fun a ha => (hb.cell (p := ⟨nb a.name, 4, none⟩) (h.lt a ha)).trans (h.c4 a ha)
  kids := fun a ha => (h.kids a ha).below hb

theorem CR.forest {w : World} {F : Nat → Prop} {cb mb : Nat} {L : List Acct} {rv : Value} {nb : ByteArray → Nat} {kv : ByteArray → Value} {ps : List (ByteArray × Value)}
    (h : CR w F cb L mb rv nb kv ps) : ForestAt w.heap.size w nb kv L ∧ RowOK w.heap.size w nb rv (rootsA L) := by
  have row : ∀ {v : Value} {l : List Acct}, w.ownsRow 0 131 1 v l.length (l.map fun b => ptrV (nb b.name)) → RowOK w.heap.size w nb v l := by
    intro v l ho
    rcases ho.2 with ⟨rfl, hn⟩ | ⟨g, cap, cur, rfl, hb, hg, r⟩
    · exact ⟨none, 0, by rw [hn], fun j hj => by omega⟩
    · exact ⟨_, cap, rfl, fun j hj => ⟨_, rfl, heap_lt hg, ho.cells (g := g) rfl j _ (by simp [hj])⟩⟩
  refine ⟨⟨fun a ha => heap_lt (h.hN a ha), ?_, ?_, ?_, ?_, ?_, fun a ha => row (h.hK a ha)⟩, row h.hR⟩
  all_goals intro a ha; rw [cell_of_blk (h.hN a ha)]; rfl

set_option maxHeartbeats 1000000 in
theorem below_in (F : Fence) (n : Nat) (h22 : F.fn 47) (hro : F.round = none) (A : Option Addr) (m c : Nat) (w : World) :
    CallsIn F n Tryz.prog 47 #[.slice A m c] w fun e w' => e = .returned (.func (.func 77) #[] #[.pointer (some ⟨w.heap.size, 0, none⟩)]) ∧ w' = w.alloc (.cells #[.slice A m c] 109) := by
  refine callsIn_of_wp Tryz.func47 rfl h22 ?_ hro
  simp only [Tryz.ntmps47, List.size_toArray, List.length_cons, List.length_nil, Nat.reduceAdd, Nat.reduceSub, Array.replicate_succ, Array.replicate_zero, List.push_toArray, List.append_toArray, List.nil_append, List.cons_append]
  gi_wp2
  go_ret
  exact ⟨rfl, rfl⟩
end Go.Proofs.YtgocoofcelggcaaGreatDoor
namespace Go.Proofs.YtgocoofcelggcaaGreatDoor
open Go.RowKit Go.Shelf
set_option linter.unusedVariables false
set_option linter.unusedSimpArgs false
attribute [local go_sem] Oper.semAt_some

/-- Marks of loops that have run out: blocks that hold no deferred call. -/
structure Marks (B : Nat) (ds : List Nat) (W : World) : Prop where
  nodup : ds.Nodup
  at_ : ∀ D ∈ ds, B ≤ D ∧ W.heap[D]? = some (.deferred (some []))

def marksOf (ds : List Nat) : List Deferred := ds.map fun D => { target := .collected D, args := #[] }

theorem Marks.kp {T : TypeId} {n₀ B : Nat} {ds : List Nat} {W W' : World} (h : Marks B ds W) (k : Kp T n₀ B W W') : Marks B ds W' :=
  ⟨h.nodup, fun D hD => ⟨(h.at_ D hD).1, k.same.same D _ (h.at_ D hD).1 (h.at_ D hD).2 rfl⟩⟩
theorem Marks.lt {B : Nat} {ds : List Nat} {W : World} (h : Marks B ds W) {D : Nat} (hD : D ∈ ds) : D < W.heap.size := heap_lt (h.at_ D hD).2

/-- A function leaves with such marks alone. -/
theorem leaves_marks {F : Fence} {n : Nat} {P : Program} {fn : Func} {tmps : Array Value} {R : Ending → World → Prop} {B : Nat} (hres : ∀ w, ∃ v, (results fn tmps).run P w = .ok v w)
    (hR : ∀ D w v, R (.returned v) w → B ≤ D → w.heap[D]? = some (.deferred (some [])) → R (.returned v) (w.putObj D (.deferred none))) :
    ∀ (ds : List Nat) (w : World), Marks B ds w → (∀ v, R (.returned v) w) → LeavesInM F n P fn tmps R (marksOf ds) .returning w
  | [], w, _, h => by
    obtain ⟨v, hv⟩ := hres w
    exact ⟨v, hv, h v⟩
  | D :: ds, w, hm, h => by
    obtain ⟨hB, hD⟩ := hm.at_ D (by simp)
    refine ⟨by simp, .inl ⟨D, _, rfl, run_takeDeferred hD, ?_⟩⟩
    refine leaves_marks hres hR ds _ ⟨(List.nodup_cons.1 hm.nodup).2, fun D' hD' => ?_⟩ fun v => hR D w v (h v) hB hD
    have hne : D' ≠ D := fun e => (List.nodup_cons.1 hm.nodup).1 (e ▸ hD')
    obtain ⟨h1, h2⟩ := hm.at_ D' (by simp [hD'])
    exact ⟨h1, (heap_putObj_other _ hne).trans h2⟩

theorem YieldAt.any {F : Fence} (hd : F.depth = none) {m : Nat} (m' : Nat) {P : Program} {l : Nat} {args : Array Value} {W : World} {R : Ending → World → Prop} (h : YieldAt F m P l args W R) : YieldAt F m' P l args W R := by
  obtain ⟨fn, tmps, assign, body, hy, hR⟩ := h
  exact ⟨fn, tmps, assign, body, hy, hR.1, fun c cs _ => hR.2 c cs (fun d h => by rw [hd] at h; cases h)⟩

/-- Between two rounds of the iterator's own loop. -/
structure SeqInv (J : List Acct → World → Prop) (W : World) (n₀ l0 : Nat) (pre : List Acct) (ds : List Nat) (wr : World) : Prop where
  j : J pre wr
  box : Boxed wr W.heap.size 134 (.func (.yield l0) #[] #[])
  bel : Below n₀ W wr
  marks : Marks W.heap.size ds wr
  size : W.heap.size ≤ wr.heap.size

theorem Marks.grown {B : Nat} {ds : List Nat} {X Y : World} {row : Option Nat} (h : Marks B ds X) (hg : X.grownBy Y row) (hr : ∀ D ∈ ds, some D ≠ row) : Marks B ds Y :=
  ⟨h.nodup, fun D hD => ⟨(h.at_ D hD).1, (hg.block D (h.lt hD) (hr D hD)).trans (h.at_ D hD).2⟩⟩

theorem seqInv_own {J : List Acct → World → Prop} {W : World} {n₀ l0 B : Nat} {ds : List Nat} {pre : List Acct} {a : Acct} (hJ : OwnFrom W.heap.size J) (hn : n₀ ≤ W.heap.size) (hB : W.heap.size ≤ B) (hds : ∀ D ∈ ds, D < B) :
    OwnFrom B (fun q W' => SeqInv J W n₀ l0 (pre ++ a :: q) ds W') := fun q X Y row h hg hr =>
  ⟨hJ _ X Y row h.j hg (fun r e => ⟨Nat.le_trans hB (hr r e).1, (hr r e).2⟩),
   boxed_own W.heap.size _ (fun (_ : Unit) => Value.func (.yield l0) #[] #[]) () X Y row h.box hg (fun r e => (hr r e).2),
   h.bel.grown hg (Nat.le_trans hn h.size) (fun k e => Nat.le_trans (Nat.le_trans hn hB) (hr k e).1),
   h.marks.grown hg (fun D hD e => by have := (hr D e.symm).1; have := hds D hD; omega), Nat.le_trans h.size hg.size⟩

set_option maxRecDepth 100000 in
set_option maxHeartbeats 4000000 in
theorem seq_step (F : Fence) (hd : F.depth = none) (hF : ∀ k, F.fn k) (hro : F.round = none) (n₀ : Nat) (L : List Acct) (nb : ByteArray → Nat) (kv : ByteArray → Value) (sub : Acct → List Acct) (l : List Acct) (hl : ∀ a ∈ l, a ∈ L) (hlen : l.length ≤ 100)
    (ih : ∀ a ∈ l, ∀ (Bt : Nat) (w : World), n₀ ≤ w.heap.size → Bt < w.heap.size → w.cell? ⟨Bt, 0, none⟩ = some (kv a.name) → ForestAt n₀ w nb kv L → It F Tryz.prog 77 #[.pointer (some ⟨Bt, 0, none⟩)] 134 accV n₀ (sub a) w)
    (Bt : Nat) (A : Option Addr) (c : Nat) (w : World) (hw : n₀ ≤ w.heap.size) (hBt : Bt < w.heap.size) (hB : w.cell? ⟨Bt, 0, none⟩ = some (.slice A l.length c)) (hrow : RowOK n₀ w nb (.slice A l.length c) l) (hf : ForestAt n₀ w nb kv L) :
    It F Tryz.prog 77 #[.pointer (some ⟨Bt, 0, none⟩)] 134 accV n₀ (l.flatMap fun a => a :: sub a) w := by
  intro l0 J Jx W hW hJ hJx hY h0 n
  have hdd : ∀ k : Nat, (F.depth.isSome = true → 1 ≤ k) := fun k h => by rw [hd] at h; cases h
  have hBW : W.cell? ⟨Bt, 0, none⟩ = some (.slice A l.length c) := (hW.cell (p := ⟨Bt, 0, none⟩) hBt).trans hB
  have hwW := hW.size
  have hWn : Below n₀ w W := hW.mono hw
  have hBtW : Bt < W.heap.size := by omega
  refine callsIn_of_wp_marks Tryz.func77 rfl (hF _) ?_ hro
  simp only [Tryz.ntmps77, List.size_toArray, List.length_cons, List.length_nil, Nat.reduceAdd, Nat.reduceSub, Array.replicate_succ, Array.replicate_zero, List.push_toArray, List.append_toArray, List.nil_append, List.cons_append]
  have hres : ∀ (tmps : Array Value) w, ∃ v, (results Tryz.f77 tmps).run Tryz.prog w = .ok v w := fun tmps w => ⟨_, by simp [results, Tryz.results77, go_sem]; rfl⟩
  have hst : ∀ (D : Nat) (w : World) (v : Value), ((∃ v', Ending.returned v = .returned v') ∧ (J (l.flatMap fun a => a :: sub a) w ∨ ∃ pre, pre <+: (l.flatMap fun a => a :: sub a) ∧ Jx pre w)) → W.heap.size ≤ D → w.heap[D]? = some (.deferred (some [])) →
      ((∃ v', Ending.returned v = .returned v') ∧ (J (l.flatMap fun a => a :: sub a) (w.putObj D (.deferred none)) ∨ ∃ pre, pre <+: (l.flatMap fun a => a :: sub a) ∧ Jx pre (w.putObj D (.deferred none)))) :=
    fun D w v h hB hD => ⟨h.1, h.2.imp (fun h => hJ.putObj _ h hB hD rfl) fun ⟨p, hp, h⟩ => ⟨p, hp, hJx.putObj _ h hB hD rfl⟩⟩
  gi_wp2
  refine wpIn_loop (fun a' wr => ∃ (k : Nat) (ds : List Nat) (u3 u4 u5 u9 u10 u11 u12 u13 u14 u15 u16 u17 u18 u19 u20 u21 u22 u23 u24 u25 u26 u27 u28 u29 : Value), SeqInv J W n₀ l0 (l.take k |>.flatMap fun a => a :: sub a) ds wr ∧ k ≤ l.length ∧ a' = { tmps := #[.func (.yield l0) #[] #[], .pointer (some ⟨Bt, 0, none⟩), .pointer (some ⟨W.heap.size, 0, none⟩), u3, u4, u5, .slice A l.length c, .int .i64 (l.length : Int), .int .i64 (k : Int), u9, u10, u11, u12, u13, u14, u15, u16, u17, u18, u19, u20, u21, u22, u23, u24, u25, u26, u27, u28, u29], defers := marksOf ds })
    (fun a' _ => l.length - (intOf (a'.tmps.getD 8 undef)).toNat) ?_ ?_
  · exact ⟨0, [], _, _, _, _, _, _, _, _, _, _, _, _, _, _, _, _, _, _, _, _, _, _, _, _, ⟨by simpa using hJ.alloc _ h0, Boxed.new _ _ _, (Below.refl _ _).alloc (by omega) _, ⟨by simp, by simp⟩, by simp⟩, Nat.zero_le _, rfl⟩
  · rintro a' wr ⟨k, ds, u3, u4, u5, u9, u10, u11, u12, u13, u14, u15, u16, u17, u18, u19, u20, u21, u22, u23, u24, u25, u26, u27, u28, u29, ⟨hJr, hbox, hbel, hmarks, hsz⟩, hk, rfl⟩
    by_cases hlt : k < l.length
    · obtain ⟨a, ha⟩ : ∃ a, a = l[k] := ⟨_, rfl⟩
      have haL : a ∈ L := hl a (ha ▸ List.getElem_mem hlt)
      have hfr := hf.below (hWn.trans hbel)
      obtain ⟨A', c', hAe, hcells⟩ := hrow.below (hWn.trans hbel)
      obtain ⟨rfl, rfl⟩ : A = A' ∧ c = c' := by simpa using hAe
      obtain ⟨ad, rfl, hadl, had⟩ := hcells k hlt
      rw [← ha] at had
      unfold ptrV at had
      have hcb := hbox.cell
      have n0 := hfr.c0 a haL
      have n1 := hfr.c1 a haL
      have n2 := hfr.c2 a haL
      have n3 := hfr.c3 a haL
      have hsplit : (l.flatMap fun a => a :: sub a) = ((l.take k).flatMap fun a => a :: sub a) ++ (a :: sub a) ++ (l.drop (k + 1)).flatMap fun a => a :: sub a := by
        conv => lhs; rw [← List.take_append_drop k l, List.drop_eq_getElem_cons hlt]
        rw [← ha]
        simp [List.flatMap_append, List.flatMap_cons]
      have hstep : (l.take (k + 1)).flatMap (fun a => a :: sub a) = ((l.take k).flatMap fun a => a :: sub a) ++ a :: sub a := by
        rw [List.take_succ_eq_append_getElem hlt, ← ha]
        simp [List.flatMap_append, List.flatMap_cons]
      have hpre : ((l.take k).flatMap fun a => a :: sub a) ++ [a] <+: l.flatMap fun a => a :: sub a := ⟨sub a ++ (l.drop (k + 1)).flatMap fun a => a :: sub a, by rw [hsplit]; simp⟩
      have hsub : ∀ q x, q ++ [x] <+: sub a → ((l.take k).flatMap fun a => a :: sub a) ++ a :: q ++ [x] <+: l.flatMap fun a => a :: sub a := fun q x ⟨t, ht⟩ => ⟨t ++ (l.drop (k + 1)).flatMap fun a => a :: sub a, by rw [hsplit, ← ht]; simp⟩
      have hstop : ∀ q, q <+: sub a → ((l.take k).flatMap fun a => a :: sub a) ++ a :: q <+: l.flatMap fun a => a :: sub a := fun q ⟨t, ht⟩ => ⟨t ++ (l.drop (k + 1)).flatMap fun a => a :: sub a, by rw [hsplit, ← ht]; simp⟩
      have HSUB := Lib.hid (And.intro hsub (And.intro hstop hstep))
      clear hsub hstop hstep hsplit
      have hJd := hJ _ _ wr.drew none hJr ⟨rfl, rfl, rfl, Nat.le_refl _, fun _ _ _ => rfl⟩ (fun r e => by cases e)
      obtain ⟨fn, tmps, assign, body, hy, hR⟩ := hY (n - 1) _ a wr.drew hJd hpre
      unfold accV at hy
      replace hR := hR.mono (R' := fun e W3 => ∃ b, e = .returned (.bool b) ∧ Hid (((b = true ∧ J (((l.take k).flatMap fun a => a :: sub a) ++ [a]) W3) ∨ (b = false ∧ Jx (((l.take k).flatMap fun a => a :: sub a) ++ [a]) W3)) ∧ Kp 134 n₀ W.heap.size wr.drew W3))
        (by rintro e W3 ⟨(⟨rfl, h⟩ | ⟨rfl, h⟩), hk3⟩; exact ⟨true, rfl, ⟨.inl ⟨rfl, h⟩, hk3⟩⟩; exact ⟨false, rfl, ⟨.inr ⟨rfl, h⟩, hk3⟩⟩)
      have HR := Lib.hid hR
      have hkd : Kp 134 n₀ W.heap.size wr wr.drew := (Kp.refl _ _ _ _).drew
      have HA := Lib.hid ha
      clear ha hR hAe hcells
      have hmx : Tryz.prog.follows .mixedOrders = true := by kernel_rfl
      gi_wp2
      gi_region_with_o (refine HR.out.mono ?_; rintro e W3 ⟨b, rfl, h3⟩)
      all_goals clear HR
      all_goals
        obtain ⟨h3, hk3⟩ := h3.out
        have hk3 := hkd.trans hk3
        have hm3 := hmarks.kp hk3
        cases b
        · have hx3 := h3.resolve_left (by simp)
          clear h3
          gi_wp2
          exact leaves_marks (hres _) hst ds _ hm3 fun v => ⟨⟨v, rfl⟩, .inr ⟨_, hpre, hx3.2⟩⟩
        · have hj3 := h3.resolve_right (by simp)
          clear h3
          have hb3 := hk3.box _ _ hbox
          have hbel3 := hbel.trans hk3.bel
          have hf3 := hf.below (hWn.trans hbel3)
          have n4 := hf3.c4 a haL
          obtain ⟨A4, c4, e4, _⟩ := (hf3.kids a haL).ex
          rw [e4] at n4
          gi_wp2_with ((try refine ⟨hdd _, ?_⟩); gi_at_call 47; refine (below_in F _ (hF _) hro _ _ _ _).mono ?_; rintro e w' ⟨rfl, rfl⟩)
          obtain ⟨W4, hW4⟩ : ∃ W4, W3.alloc (.cells #[.slice A4 (kidsA L a.name).length c4] 109) = W4 := ⟨_, rfl⟩
          have hs4 : W4.heap.size = W3.heap.size + 1 := by rw [← hW4]; simp
          have hs3 : W.heap.size ≤ W3.heap.size := Nat.le_trans hsz hk3.bel.size
          have hk4 : Kp 134 n₀ W.heap.size W3 W4 := by rw [← hW4]; exact Kp.alloc _ (by omega)
          have hj4 : J (((l.take k).flatMap fun a => a :: sub a) ++ [a]) W4 := by rw [← hW4]; exact hJ.alloc _ hj3.2
          have hc4 : W4.cell? ⟨W3.heap.size, 0, none⟩ = some (kv a.name) := by rw [← hW4, e4]; exact (Boxed.new W3 _ _).cell
          have hb4 := hk4.box _ _ hb3
          have hm4 := hm3.kp hk4
          have hbel4 := hbel3.trans hk4.bel
          have hml4 : ∀ D ∈ ds, D < W4.heap.size := fun D hD => hm4.lt hD
          have hit := ih a (HA.out ▸ List.getElem_mem hlt) W3.heap.size W4 (by omega) (by omega) hc4 (hf.below (hWn.trans hbel4))
          rw [hW4]
          refine wpIn_range_it (T := 134) (enc := accV) (n₀ := n₀) (ys := sub a) hd hro (gf := 77) (lb := #[.pointer (some ⟨W3.heap.size, 0, none⟩)]) rfl (hF _) (enters_of Tryz.func77 (by kernel_rfl) rfl) hit (by omega)
            (fun q W' => SeqInv J W n₀ l0 (((l.take k).flatMap fun a => a :: sub a) ++ a :: q) ds W')
            (fun q W' => Jx (((l.take k).flatMap fun a => a :: sub a) ++ a :: q) W' ∧ Marks W.heap.size ds W')
            (seqInv_own hJ (by omega) (by omega) hml4)
            (fun q X Y row h hg hr => ⟨hJx _ X Y row h.1 hg (fun r e => ⟨Nat.le_trans (by omega) (hr r e).1, (hr r e).2⟩), h.2.grown hg (fun D hD e => by have := (hr D e.symm).1; have := hml4 D hD; omega)⟩)
            ⟨hj4, hb4, hbel4, hm4, by omega⟩
            (fun x a' W' => ∃ Bx, W'.heap[Bx]? = some (.cells #[.string x.name, .int .i64 x.typ, .int .i64 x.opened, .bool x.closed] 65 (0, 0)) ∧ a' = { tmps := #[.func (.yield l0) #[] #[], .pointer (some ⟨Bt, 0, none⟩), .pointer (some ⟨W.heap.size, 0, none⟩), u3, .pointer (some ⟨nb a.name, 0, none⟩), .pointer (some ⟨Bx, 0, none⟩), .slice (some ad) l.length c, .int .i64 (l.length : Int), .int .i64 (k : Int), .bool true, .pointer (some (ad.add k)), .pointer (some ⟨nb a.name, 0, none⟩), .func (.yield l0) #[] #[], .pointer (some ⟨nb a.name, 0, none⟩), .pointer (some ⟨nb a.name, 0, none⟩), .pointer (some ⟨nb a.name, 0, none⟩), .agg #[.string a.name, .int .i64 a.typ, .int .i64 a.opened, .bool a.closed], .bool true, .bool false, .pointer (some ⟨nb a.name, 0, none⟩), .pointer (some ⟨nb a.name, 0, none⟩), .pointer (some ⟨nb a.name, 4, none⟩), .slice A4 (kidsA L a.name).length c4, .func (.func 77) #[] #[.pointer (some ⟨W3.heap.size, 0, none⟩)], accV x, u25, u26, u27, u28, u29], defers := [] })
            (fun x a' _ X Y row h hg hr => by
              obtain ⟨Bx, h1, h2⟩ := h
              refine ⟨Bx, (hg.block Bx (heap_lt h1) (fun e => ?_)).trans h1, h2⟩
              obtain ⟨_, o, ho, hc⟩ := hr Bx e.symm
              rw [h1] at ho; cases ho; cases hc)
            ?assign ?body ?done ?stop
          case assign =>
            intro l2 m q x W' K hs' hI hK
            unfold accV
            gi_wp2
            exact hK _ _ (Kp.alloc _ (by omega)) ⟨hJ.alloc _ hI.j, hI.box.alloc _, hI.bel.alloc (by omega) _, hI.marks.kp (Kp.alloc (T := 134) (n₀ := n₀) _ (by omega)), by simp; omega⟩ ⟨W'.heap.size, heap_alloc_new _ _, rfl⟩
          case body =>
            rintro l2 m q x a' W' hs' ⟨hjq, hbq, hbelq, hmq, hsq⟩ ⟨Bx, hBx, rfl⟩ hq
            obtain ⟨fn, tmps, assign, body, hy, hR⟩ := hY (m - 1) _ x W' hjq (HSUB.out.1 q x hq)
            unfold accV at hy ⊢
            have hcq := hbq.cell
            have x0 : W'.cell? ⟨Bx, 0, none⟩ = some (.string x.name) := by rw [cell_of_blk hBx]; rfl
            have x1 : W'.cell? ⟨Bx, 1, none⟩ = some (.int .i64 x.typ) := by rw [cell_of_blk hBx]; rfl
            have x2 : W'.cell? ⟨Bx, 2, none⟩ = some (.int .i64 x.opened) := by rw [cell_of_blk hBx]; rfl
            have x3 : W'.cell? ⟨Bx, 3, none⟩ = some (.bool x.closed) := by rw [cell_of_blk hBx]; rfl
            have HR := Lib.hid hR
            clear hR
            have hdd2 : ∀ k : Nat, ((F.inRound l2).depth.isSome = true → 1 ≤ k) := fun k h => by rw [show (F.inRound l2).depth = F.depth from rfl, hd] at h; cases h
            gi_wp2
            refine RoundIn.mono (show RoundIn (F.inRound l2) _ _ _ _ _ _ _ _ _ from HR.out) ?_
            clear HR hy
            rintro e W5 ⟨(⟨rfl, h5⟩ | ⟨rfl, h5⟩), hk5⟩
            · gi_wp2
              exact ⟨hk5.mono (by omega), by simpa using h5, hk5.box _ _ hbq, hbelq.trans hk5.bel, hmq.kp hk5, Nat.le_trans hsq hk5.bel.size⟩
            · gi_wp2
              exact ⟨hk5.mono (by omega), by simpa using h5, hmq.kp hk5⟩
          case done =>
            intro D W' hD ⟨hjq, hbq, hbelq, hmq, hsq⟩ hDd
            have hmD : Marks W.heap.size (D :: ds) W' := ⟨List.nodup_cons.2 ⟨fun h => by have := hml4 D h; omega, hmq.nodup⟩, fun D' hD' => by
              rcases List.mem_cons.1 hD' with rfl | hD'
              · exact ⟨by omega, hDd⟩
              · exact hmq.at_ D' hD'⟩
            gi_wp2
            exact ⟨⟨k + 1, D :: ds, _, _, _, _, _, _, _, _, _, _, _, _, _, _, _, _, _, _, _, _, _, _, _, _, ⟨by rw [HSUB.out.2.2]; exact hjq, hbq, hbelq, hmD, by omega⟩, by omega, rfl⟩, by simp [intOf]; omega⟩
          case stop =>
            rintro D q W' hD hq ⟨hx, hmk⟩ hDd
            have hmD : Marks W.heap.size (D :: ds) W' := ⟨List.nodup_cons.2 ⟨fun h => by have := hml4 D h; omega, hmk.nodup⟩, fun D' hD' => by
              rcases List.mem_cons.1 hD' with rfl | hD'
              · exact ⟨by omega, hDd⟩
              · exact hmk.at_ D' hD'⟩
            gi_wp2
            exact leaves_marks (hres _) hst (D :: ds) _ hmD fun v => ⟨⟨v, rfl⟩, .inr ⟨_, HSUB.out.2.1 q hq, hx⟩⟩
    · gi_wp2
      obtain rfl : k = l.length := by omega
      rw [List.take_length] at hJr
      exact leaves_marks (hres _) hst ds _ hmarks fun v => ⟨⟨v, rfl⟩, .inl hJr⟩

/-- The whole iterator, by how deep the accounts lie. -/
theorem seq_it (F : Fence) (hd : F.depth = none) (hF : ∀ k, F.fn k) (hro : F.round = none) (n₀ : Nat) (L : List Acct) (nb : ByteArray → Nat) (kv : ByteArray → Value) (B : Nat) (hlen : L.length ≤ 100)
    (hsz : ∀ a ∈ L, a.name.size ≤ B) (hkid : ∀ a ∈ L, ∀ b ∈ kidsA L a.name, a.name.size < b.name.size) :
    ∀ (d : Nat) (l : List Acct), (∀ a ∈ l, a ∈ L) → (∀ a ∈ l, B < a.name.size + d) → l.length ≤ 100 → ∀ (Bt : Nat) (v : Value) (w : World), n₀ ≤ w.heap.size → Bt < w.heap.size → w.cell? ⟨Bt, 0, none⟩ = some v → RowOK n₀ w nb v l → ForestAt n₀ w nb kv L →
      It F Tryz.prog 77 #[.pointer (some ⟨Bt, 0, none⟩)] 134 accV n₀ (preL L d l) w
  | 0, l, hl, hB, hll, Bt, v, w, hw, hBt, hv, hrow, hf => by
    have hnil : l = [] := by
      cases l with
      | nil => rfl
      | cons a r =>
        have h1 := hB a (by simp)
        have h2 := hsz a (hl a (by simp))
        omega
    subst hnil
    have hrow' := hrow
    obtain ⟨A, c, rfl, _⟩ := hrow'
    exact seq_step F hd hF hro n₀ L nb kv (fun _ => []) [] (by simp) (by simp) (by simp) Bt A c w hw hBt hv hrow hf
  | d + 1, l, hl, hB, hll, Bt, v, w, hw, hBt, hv, hrow, hf => by
    have hrow' := hrow
    obtain ⟨A, c, rfl, _⟩ := hrow'
    refine seq_step F hd hF hro n₀ L nb kv (fun a => preL L d (kidsA L a.name)) l hl hll (fun a ha Bt' w' hw' hBt' hv' hf' => ?_) Bt A c w hw hBt hv hrow hf
    have haL := hl a ha
    refine seq_it F hd hF hro n₀ L nb kv B hlen hsz hkid d (kidsA L a.name) (fun b hb => (List.mem_filter.1 hb).1) (fun b hb => ?_) ?_ Bt' (kv a.name) w' hw' hBt' hv' (hf'.kids a haL) hf'
    · have h1 := hB a ha
      have h2 := hkid a haL b hb
      omega
    · exact Nat.le_trans (List.length_filter_le _ _) hlen
end Go.Proofs.YtgocoofcelggcaaGreatDoor
namespace Go.Proofs.YtgocoofcelggcaaGreatDoor
open Go.RowKit
set_option linter.unusedVariables false
set_option linter.unusedSimpArgs false

/-- Two names by their bytes: below 0, 0, above 0. -/
def cmpB (a b : ByteArray) : Int := Lib.compareBytes a.data.toList b.data.toList

theorem cmpL_self : ∀ l : List UInt8, Lib.compareBytes l l = 0
  | [] => rfl
  | a :: l => by simp [Lib.compareBytes, cmpL_self l]
theorem cmpL_range : ∀ l m : List UInt8, Lib.compareBytes l m = -1 ∨ Lib.compareBytes l m = 0 ∨ Lib.compareBytes l m = 1
  | [], [] => by simp [Lib.compareBytes]
  | [], _ :: _ => by simp [Lib.compareBytes]
  | _ :: _, [] => by simp [Lib.compareBytes]
  | a :: l, b :: m => by
    unfold Lib.compareBytes
    split
    · simp
    · split
      · simp
      · exact cmpL_range l m
theorem cmpL_eq0 : ∀ l m : List UInt8, Lib.compareBytes l m = 0 → l = m
  | [], [] => by simp
  | [], _ :: _ => by simp [Lib.compareBytes]
  | _ :: _, [] => by simp [Lib.compareBytes]
  | a :: l, b :: m => by
    unfold Lib.compareBytes
    intro h
    split at h
    · simp at h
    · split at h
      · simp at h
      · rename_i h1 h2
        have e : a = b := by
          apply UInt8.toNat_inj.1
          simp [UInt8.lt_iff_toNat_lt] at h1 h2
          omega
        rw [e, cmpL_eq0 l m h]
theorem cmpL_swap : ∀ l m : List UInt8, Lib.compareBytes l m = - Lib.compareBytes m l
  | [], [] => by simp [Lib.compareBytes]
  | [], _ :: _ => by simp [Lib.compareBytes]
  | _ :: _, [] => by simp [Lib.compareBytes]
  | a :: l, b :: m => by
    have ih := cmpL_swap l m
    unfold Lib.compareBytes
    by_cases h1 : a < b
    · have h2 : ¬ b < a := by simp [UInt8.lt_iff_toNat_lt] at h1 ⊢; omega
      simp [h1, h2]
    · by_cases h2 : b < a
      · simp [h1, h2]
      · simp [h1, h2, ih]
theorem cmpL_trans : ∀ l m k : List UInt8, Lib.compareBytes l m < 0 → Lib.compareBytes m k < 0 → Lib.compareBytes l k < 0
  | l, [], _ => by cases l <;> simp [Lib.compareBytes]
  | [], _ :: _, [] => by simp [Lib.compareBytes]
  | [], _ :: _, _ :: _ => by simp [Lib.compareBytes]
  | _ :: _, _ :: _, [] => by simp [Lib.compareBytes]
  | a :: l, b :: m, c :: k => by
    have ih := cmpL_trans l m k
    intro h1 h2
    unfold Lib.compareBytes at h1 h2 ⊢
    simp only [UInt8.lt_iff_toNat_lt] at h1 h2 ⊢
    split at h1
    · split at h2
      · rw [if_pos (by omega)]; decide
      · split at h2
        · simp at h2
        · rw [if_pos (by omega)]; decide
    · split at h1
      · simp at h1
      · split at h2
        · rw [if_pos (by omega)]; decide
        · split at h2
          · simp at h2
          · rw [if_neg (by omega), if_neg (by omega)]
            exact ih h1 h2

theorem cmp_self (a : ByteArray) : cmpB a a = 0 := cmpL_self _
theorem cmp_eq0 {a b : ByteArray} (h : cmpB a b = 0) : a = b := by
  have := cmpL_eq0 _ _ h
  cases a with
  | mk x => cases b with
    | mk y => congr; exact Array.toList_inj.1 this
theorem cmp_swap (a b : ByteArray) : cmpB a b = - cmpB b a := cmpL_swap _ _
theorem cmp_trans {a b c : ByteArray} (h1 : cmpB a b < 0) (h2 : cmpB b c < 0) : cmpB a c < 0 := cmpL_trans _ _ _ h1 h2
theorem cmp_total {a b : ByteArray} (h : a ≠ b) : cmpB a b < 0 ∨ cmpB b a < 0 := by
  have h1 := cmp_swap a b
  have h0 : cmpB a b ≠ 0 := fun e => h (cmp_eq0 e)
  omega
theorem cmp_ne {a b : ByteArray} (h : cmpB a b < 0) : a ≠ b := fun e => by subst e; rw [cmp_self] at h; omega

/-- Rising by name. -/
def Rising (L : List Acct) : Prop := L.Pairwise fun x y => cmpB x.name y.name < 0

/-- One more into a rising list. -/
def insA (a : Acct) : List Acct → List Acct
  | [] => [a]
  | b :: r => if cmpB b.name a.name < 0 then b :: insA a r else a :: b :: r

theorem insA_cons (a b : Acct) (r : List Acct) : insA a (b :: r) = if cmpB b.name a.name < 0 then b :: insA a r else a :: b :: r := rfl
theorem mem_insA {a x : Acct} : ∀ {L : List Acct}, x ∈ insA a L ↔ x = a ∨ x ∈ L
  | [] => by simp [insA]
  | b :: r => by
    unfold insA
    split
    · simp [mem_insA (L := r)]
      constructor
      · rintro (h | h | h) <;> simp [h]
      · rintro (h | h | h) <;> simp [h]
    · simp
theorem length_insA (a : Acct) : ∀ L : List Acct, (insA a L).length = L.length + 1
  | [] => rfl
  | b :: r => by
    unfold insA
    split
    · simp [length_insA a r]
    · simp

theorem insA_low {a : Acct} : ∀ {L : List Acct}, (∀ b ∈ L, 0 ≤ cmpB b.name a.name) → insA a L = a :: L
  | [], _ => rfl
  | b :: r, h => by
    unfold insA
    rw [if_neg (by have := h b (by simp); omega)]

theorem rising_insA {a : Acct} : ∀ {L : List Acct}, Rising L → (∀ b ∈ L, b.name ≠ a.name) → Rising (insA a L)
  | [], _, _ => by simp [Rising, insA]
  | b :: r, h, hn => by
    obtain ⟨h1, h2⟩ := List.pairwise_cons.1 h
    unfold insA
    split
    · rename_i hb
      refine List.pairwise_cons.2 ⟨fun x hx => ?_, rising_insA h2 fun c hc => hn c (by simp [hc])⟩
      rcases mem_insA.1 hx with rfl | hx
      · exact hb
      · exact h1 x hx
    · rename_i hb
      have hab : cmpB a.name b.name < 0 := by
        rcases cmp_total (hn b (by simp)) with h | h
        · exact absurd h hb
        · exact h
      refine List.pairwise_cons.2 ⟨fun x hx => ?_, h⟩
      rcases List.mem_cons.1 hx with rfl | hx
      · exact hab
      · exact cmp_trans hab (h1 x hx)

theorem filter_insA (p : Acct → Bool) (a : Acct) : ∀ L : List Acct, Rising L → (insA a L).filter p = if p a then insA a (L.filter p) else L.filter p
  | [], _ => by
    by_cases hp : p a <;> simp [insA, hp]
  | b :: r, h => by
    obtain ⟨h1, h2⟩ := List.pairwise_cons.1 h
    have ih := filter_insA p a r h2
    rw [insA_cons]
    by_cases hb : cmpB b.name a.name < 0
    · rw [if_pos hb]
      by_cases hpb : p b
      · by_cases hp : p a
        · simp [hpb, hp, ih, insA_cons, hb]
        · simp [hpb, hp, ih]
      · by_cases hp : p a
        · simp [hpb, hp, ih]
        · simp [hpb, hp, ih]
    · rw [if_neg hb]
      have hlow : ∀ c ∈ (b :: r).filter p, 0 ≤ cmpB c.name a.name := fun c hc => by
        rcases List.mem_cons.1 (List.mem_filter.1 hc).1 with rfl | hc'
        · omega
        · rcases Int.lt_or_le (cmpB c.name a.name) 0 with hlt | hge
          · exact absurd (cmp_trans (h1 c hc') hlt) hb
          · exact hge
      by_cases hp : p a
      · rw [if_pos hp, insA_low hlow, List.filter_cons, if_pos hp]
      · rw [if_neg hp, List.filter_cons, if_neg hp]

theorem find_insA {a : Acct} {k : ByteArray} : ∀ {L : List Acct}, (∀ b ∈ L, b.name ≠ a.name) → findA (insA a L) k = if a.name = k then some a else findA L k
  | [], _ => by
    by_cases h : a.name = k <;> simp [findA, insA, h]
  | b :: r, hn => by
    have ih := find_insA (a := a) (k := k) (L := r) fun c hc => hn c (by simp [hc])
    have hb := hn b (by simp)
    unfold findA at ih ⊢
    rw [insA_cons]
    split
    · by_cases hbk : b.name = k
      · have : ¬ a.name = k := fun e => hb (by rw [hbk, e])
        simp [hbk, this]
      · simp only [List.find?_cons, hbk, decide_false]
        exact ih
    · by_cases h : a.name = k
      · simp [h]
      · simp [h]

theorem insA_at (a : Acct) : ∀ (L : List Acct) (i : Nat), i ≤ L.length → (∀ j (hj : j < L.length), j < i → cmpB L[j].name a.name < 0) → (∀ j (hj : j < L.length), i ≤ j → 0 ≤ cmpB L[j].name a.name) →
    insA a L = L.take i ++ a :: L.drop i
  | L, 0, _, _, h => by
    rw [insA_low]
    · simp
    · intro b hb
      obtain ⟨j, hj, rfl⟩ := List.getElem_of_mem hb
      exact h j hj (Nat.zero_le _)
  | [], i + 1, hi, _, _ => by simp at hi
  | b :: r, i + 1, hi, h1, h2 => by
    have hb : cmpB b.name a.name < 0 := h1 0 (by simp) (by omega)
    rw [insA_cons, if_pos hb]
    rw [insA_at a r i (by simpa using hi) (fun j hj hlt => h1 (j + 1) (by simpa using hj) (by omega)) (fun j hj hle => h2 (j + 1) (by simpa using hj) (by omega))]
    simp

theorem find_mem {L : List Acct} {a : Acct} (hr : Rising L) (ha : a ∈ L) : findA L a.name = some a := by
  unfold findA
  induction L with
  | nil => simp at ha
  | cons b r ih =>
    obtain ⟨h1, h2⟩ := List.pairwise_cons.1 hr
    rcases List.mem_cons.1 ha with rfl | ha
    · simp
    · have : ¬ b.name = a.name := cmp_ne (h1 a ha)
      simp [this, ih h2 ha]
theorem find_none {L : List Acct} {k : ByteArray} (h : findA L k = none) : ∀ b ∈ L, b.name ≠ k := by
  intro b hb
  have := List.find?_eq_none.1 h b hb
  simpa using this
theorem rising_filter {L : List Acct} (p : Acct → Bool) (h : Rising L) : Rising (L.filter p) := h.filter p
theorem rising_get {L : List Acct} (h : Rising L) {i j : Nat} (hj : j < L.length) (hij : i < j) : cmpB (L[i]'(by omega)).name L[j].name < 0 := List.pairwise_iff_getElem.1 h i j (by omega) hj hij
end Go.Proofs.YtgocoofcelggcaaGreatDoor
namespace Go.Proofs.YtgocoofcelggcaaGreatDoor
open Go.RowKit
set_option linter.unusedVariables false
set_option linter.unusedSimpArgs false

theorem info_ptr : (Tryz.prog.info? 131).map (fun i => (i.zero, i.size, i.bytes)) = some (some (.pointer none), 1, 8) := by kernel_rfl

theorem shape_setCells (b : Nat) : ∀ (vs : List Value) (o : Nat) (w : World) (cur : Array Value) (e : TypeId), w.heap[b]? = some (.cells cur e (0, 0)) →
    ∃ cur', (w.setCells b o vs).heap[b]? = some (.cells cur' e (0, 0)) ∧ cur'.size = cur.size
  | [], o, w, cur, e, h => ⟨cur, h, rfl⟩
  | v :: r, o, w, cur, e, h => by
    obtain ⟨c, h1, h2⟩ := shape_setCells b r (o + 1) _ _ e (heap_setCell_same h v (i := o))
    exact ⟨c, h1, by rw [h2]; simp⟩
theorem grown_setCells (b : Nat) : ∀ (vs : List Value) (o : Nat) (w : World), w.grownBy (w.setCells b o vs) (some b)
  | [], o, w => World.grownBy.refl w _
  | v :: r, o, w => World.grownBy.trans (b := w.setCell ⟨b, o, none⟩ v) ⟨rfl, rfl, rfl, by simp [World.setCell], fun k hk hn => Below.heap_setCell _ _ _ _ (fun e => hn (by rw [e]))⟩ (grown_setCells b r (o + 1) _)

theorem own_of_cells {w : World} {g e n cap : Nat} {cur : Array Value} {xs : List Value} (hb : w.heap[g]? = some (.cells cur e (0, 0))) (hs : cur.size = cap) (hn : n ≤ cap) (hm : cap ≤ maxLen) (hl : xs.length = n)
    (hc : ∀ j u, xs[j]? = some u → w.cell? ⟨g, j, none⟩ = some u) : w.ownsRow 0 e 1 (.slice (some ⟨g, 0, none⟩) n cap) n xs := by
  refine ⟨by omega, .inr ⟨g, cap, cur, rfl, Nat.zero_le _, hb, hn, hm, by omega, ?_⟩⟩
  apply List.ext_getElem?
  intro j
  rw [List.getElem?_take]
  by_cases hj : j < n * 1
  · rw [if_pos hj]
    have hjx : j < xs.length := by omega
    have h := hc j _ (List.getElem?_eq_getElem hjx)
    rw [cell_of_row w g j cur e (0, 0) hb] at h
    rw [List.getElem?_eq_getElem hjx, ← h]
    simp
  · rw [if_neg hj, List.getElem?_eq_none (by omega)]

structure InsPost (w : World) (v : Value) (n : Nat) (ys : List Value) (e : Ending) (w' : World) : Prop where
  ex : ∃ v', e = .returned v' ∧ w'.ownsRow 0 131 1 v' n ys ∧ w.grownBy w' v.ownBlock ∧ (v'.ownBlock = v.ownBlock ∨ ∃ k, v'.ownBlock = some k ∧ w.heap.size ≤ k)

set_option maxRecDepth 100000 in
set_option maxHeartbeats 2000000 in
theorem Insert_end (v : Value) (n vb : Nat) (xs : List Value) (x : Value) (w : World) (hn : n ≤ 100) (hown : w.ownsRow 0 131 1 v n xs) (hx : w.heap[vb]? = some (.cells #[x] 131 (0, 0))) (h1 : x.oneCell' = true) :
    Calls Tryz.prog 152 #[v, .int .i64 n, .slice (some ⟨vb, 0, none⟩) 1 1] w (InsPost w v (n + 1) (xs ++ [x])) := by
  obtain ⟨i0, hi, hz0, hz1, hz2⟩ := info_parts info_ptr
  have hxc : ∀ j u, [x][j]? = some u → w.cell? ((⟨vb, 0, none⟩ : Addr).add j) = some u := fun j u hu => by
    have hj : j = 0 := by
      rcases j with _ | j
      · rfl
      · simp at hu
    subst hj
    simp at hu
    subst hu
    show w.cell? ⟨vb, 0, none⟩ = _
    rw [cell_of_row w vb 0 _ _ _ hx]; rfl
  have HX := Lib.hid hx
  have HXC := Lib.hid hxc
  clear hx hxc
  obtain ⟨A, c, rfl, hc0⟩ : ∃ A c, v = .slice A n c ∧ (n = c ∨ ∃ a, A = some a ∧ n ≤ c) := by
    rcases hown.2 with ⟨rfl, rfl⟩ | ⟨g, cap, cur, rfl, _, _, hnc, _⟩
    · exact ⟨none, 0, rfl, .inl rfl⟩
    · exact ⟨_, cap, rfl, .inr ⟨_, rfl, hnc⟩⟩
  have hcn : n ≤ c := by rcases hc0 with h | ⟨_, _, h⟩ <;> omega
  have hcm : c ≤ 9223372036854775807 := by
    rcases hown.2 with ⟨h, _⟩ | ⟨g, cap, cur, h, _, _, _, h2, _⟩
    · injection h; omega
    · injection h with _ _ h; subst h; unfold maxLen at h2; omega
  have HO := Lib.hid hown
  clear hown hc0
  by_cases hcap : c = n
  · subst hcap
    go_enter Tryz.func152, Tryz.ntmps152
    go_wp2_with (at_builtin; refine wpList_append_own_at _ rfl (.tmp 23) (.tmp 24) 109 rfl 0 131 i0 (.pointer none) 1 8 Tryz.underlying109 hi hz0 hz1 hz2 rfl (by decide) _ _ _ rfl HO.out ⟨vb, 0, none⟩ 1 1 [x] rfl rfl ?c1 ?c2 ?c3 ?c4 ?c5 ?_)
    case c1 => exact HXC.out
    case c2 => intro u hu; simp at hu; subst hu; exact h1
    case c3 => unfold maxLen; omega
    case c4 => omega
    case c5 => omega
    intro v' w1 hown' hg _ hat
    have HO' := Lib.hid hown'
    have HG := Lib.hid hg
    have HA := Lib.hid hat
    clear hown' hg hat
    go_wp2
    go_ret
    exact ⟨v', rfl, HO'.out, HG.out, HA.out.imp id fun h => ⟨_, h, Nat.le_refl _⟩⟩
  · have hcap' : ¬ n = c := fun e => hcap e.symm
    go_enter Tryz.func152, Tryz.ntmps152
    go_wp2_with (at_builtin; refine wpList_append_own_at _ rfl (.tmp 23) (.tmp 24) 109 rfl 0 131 i0 (.pointer none) 1 8 Tryz.underlying109 hi hz0 hz1 hz2 rfl (by decide) _ _ _ rfl HO.out ⟨vb, 0, none⟩ 1 1 [x] rfl rfl ?c1 ?c2 ?c3 ?c4 ?c5 ?_)
    case c1 => exact HXC.out
    case c2 => intro u hu; simp at hu; subst hu; exact h1
    case c3 => unfold maxLen; omega
    case c4 => omega
    case c5 => omega
    intro v' w1 hown' hg _ hat
    have HO' := Lib.hid hown'
    have HG := Lib.hid hg
    have HA := Lib.hid hat
    clear hown' hg hat
    go_wp2
    go_ret
    exact ⟨v', rfl, HO'.out, HG.out, HA.out.imp id fun h => ⟨_, h, Nat.le_refl _⟩⟩

theorem blk_cells {w : World} {b : Nat} {cs : Array Value} {t : TypeId} (h : w.heap[b]? = some (.cells cs t (0, 0))) (j : Nat) : w.cell? ⟨b, j, none⟩ = cs[j]? ∧ w.frozen? ⟨b, j, none⟩ = false :=
  ⟨cell_of_row w b j cs t (0, 0) h, by simp [World.frozen?, h]⟩

set_option maxRecDepth 100000 in
set_option maxHeartbeats 4000000 in
theorem Insert_shift (g n c i vb : Nat) (cur : Array Value) (x : Value) (w : World) (hi : i < n) (hn : n ≤ 100) (hroom : n + 1 ≤ c) (hc63 : c ≤ maxLen)
    (hcur : w.heap[g]? = some (.cells cur 131 (0, 0))) (hsz : cur.size = c) (hx : w.heap[vb]? = some (.cells #[x] 131 (0, 0))) (h1 : x.oneCell' = true) (hgv : vb ≠ g)
    (h1c : ∀ u ∈ cur.toList.take n, u.oneCell' = true) :
    Calls Tryz.prog 152 #[.slice (some ⟨g, 0, none⟩) n c, .int .i64 i, .slice (some ⟨vb, 0, none⟩) 1 1] w fun e w' =>
      e = .returned (.slice (some ⟨g, 0, none⟩) (n + 1) c) ∧ w' = (w.drew.setCells g (i + 1) ((cur.toList.take n).drop i)).setCells g i [x] := by
  unfold maxLen at hc63
  have hz2 : ¬ ((i : Int) = (n : Int)) := by omega
  have hsz1 : (Tryz.prog.info? 131).map (·.size) = some 1 := by
    obtain ⟨i0, hi0, h0, h1, h2⟩ := info_parts info_ptr
    rw [hi0]; simp [h1]
  obtain ⟨cs, hcs⟩ : ∃ cs, cs = cur.toList.take n := ⟨_, rfl⟩
  rw [← hcs] at h1c ⊢
  have hcl : cs.length = n := by rw [hcs]; simp; omega
  have hcc : ∀ j u, cs[j]? = some u → w.cell? ⟨g, j, none⟩ = some u := fun j u hu => by
    rw [(blk_cells hcur j).1]
    rw [hcs, List.getElem?_take] at hu
    split at hu
    · simpa using hu
    · cases hu
  have hsp : ∀ j, j < c → (w.cell? ⟨g, j, none⟩).isSome = true := fun j hj => by rw [(blk_cells hcur j).1, Array.getElem?_eq_getElem (by omega)]; rfl
  have hfz : ∀ j, w.frozen? ⟨g, j, none⟩ = false := fun j => (blk_cells hcur j).2
  have hov : ∀ lb cb, (callFunc 158 #[.slice (some ⟨vb, 0, none⟩) 1 1, .slice (some ⟨g, i + 1, none⟩) lb cb]).run Tryz.prog w = .ok (.value (.bool false)) w := fun lb cb => by
    rw [run_callFunc_extern Tryz.func158 (by kernel_rfl) (by kernel_rfl) (by kernel_rfl) (e := Extern.SlicesOverlaps.overlaps #[109, 109] #[4]) (by kernel_rfl),
      Lib.run_overlaps_apart w 109 4 131 Tryz.underlying109 1 Tryz.sizeOf131 ⟨vb, 0, none⟩ ⟨g, i + 1, none⟩ 1 1 lb cb hgv 131 131 1 c (by simp [World.shape?, hx]) (by simp [World.shape?, hcur, hsz]) (by omega) (blk_cells hx 0).2 (blk_cells hx 1).2]
    rfl
  have hdl : (cs.drop i).length = n - i := by rw [List.length_drop, hcl]
  have hw1 : IntKind.i64.wrap ((i : Int) + 1) = (i : Int) + 1 := by rw [IntKind.wrap_i64]; omega
  have hb1 : (0 : Int) ≤ (i : Int) + 1 := by omega
  have hin : i ≤ n := by omega
  have htn : ((i : Int) + 1).toNat = i + 1 := by omega
  have hb2 : ¬ (c = i + 1) := by omega
  have hb3 : (i : Int) ≤ (n : Int) + 1 := by omega
  have hb4 : ¬ (c = i) := by omega
  have hcp1 : ∀ ty dc sc, (Builtin.copy_ #[109, 109] ty #[.slice (some ⟨g, i + 1, none⟩) (n - i) dc, .slice (some ⟨g, i, none⟩) (n + 1 - i) sc]).run Tryz.prog w.drew = .ok (goInt (cs.drop i).length) (w.drew.setCells g (i + 1) (cs.drop i)) := fun ty dc sc =>
    run_copy_cells w.drew _ _ ty 131 g (i + 1) (n - i) dc ⟨g, i, none⟩ (n + 1 - i) sc (cs.drop i) Tryz.underlying109 hsz1 (by rw [hdl]; simp only [Nat.min_def]; split <;> omega)
      (fun j v hj => by rw [Addr.add_lit]; exact hcc (i + j) v (by rwa [List.getElem?_drop] at hj))
      (fun j hj => hsp _ (by omega)) (fun j hj => hfz _) (fun v hv => h1c v (List.mem_of_mem_drop hv))
  obtain ⟨W1, hW1⟩ : ∃ W1, W1 = w.drew.setCells g (i + 1) (cs.drop i) := ⟨_, rfl⟩
  have hsp1 : ∀ k, k < c → (W1.cell? ⟨g, k, none⟩).isSome = true := fun k hk => by
    rw [hW1]
    exact isSome_setCells g (cs.drop i) (i + 1) w.drew (fun j hj => hsp (i + 1 + j) (by rw [hdl] at hj; omega)) _ (hsp k hk)
  have hcp2 : ∀ ty dc, (Builtin.copy_ #[109, 109] ty #[.slice (some ⟨g, i, none⟩) (n + 1 - i) dc, .slice (some ⟨vb, 0, none⟩) 1 1]).run Tryz.prog W1 = .ok (goInt [x].length) (W1.setCells g i [x]) := fun ty dc =>
    run_copy_cells W1 _ _ ty 131 g i (n + 1 - i) dc ⟨vb, 0, none⟩ 1 1 [x] Tryz.underlying109 hsz1 (by simp only [Nat.min_def, List.length_cons, List.length_nil]; split <;> omega)
      (fun j v hj => by
        rw [Addr.add_lit, hW1, World.cell?_setCells_out g _ _ _ _ (fun h _ => absurd h hgv)]
        show w.cell? _ = _
        rw [(blk_cells hx _).1]
        simpa using hj)
      (fun j hj => hsp1 _ (by simp at hj; omega))
      (fun j hj => by rw [hW1, World.frozen?_setCells]; exact hfz _) (fun v hv => by simp at hv; subst hv; exact h1)
  subst hW1
  clear hcs hcl hcc hsp hfz hdl hsp1 hx hcur h1c
  go_enter Tryz.func152, Tryz.ntmps152
  go_wp2_with (simp only [hov])
  go_region_law (refine step_copy_runI rfl _ _ 109 109 rfl _ _ (by simp [Act.eval, Act.put]) (by simp [Act.eval, Act.put]) (hcp1 _ _ _) ?_)
  go_wp2_with (at_builtin; refine wpList_copy_runI _ rfl _ _ 109 109 rfl _ _ rfl rfl (hcp2 _ _) ?_)
  go_ret
  exact ⟨rfl, rfl⟩

set_option maxRecDepth 100000 in
set_option maxHeartbeats 4000000 in
theorem Insert_grow (g n i vb : Nat) (cur : Array Value) (x : Value) (w : World) (hi : i < n) (hn : n ≤ 100)
    (hcur : w.heap[g]? = some (.cells cur 131 (0, 0))) (hsz : cur.size = n) (hx : w.heap[vb]? = some (.cells #[x] 131 (0, 0))) (h1 : x.oneCell' = true)
    (h1c : ∀ u ∈ cur.toList.take n, u.oneCell' = true) :
    Calls Tryz.prog 152 #[.slice (some ⟨g, 0, none⟩) n n, .int .i64 i, .slice (some ⟨vb, 0, none⟩) 1 1] w fun e w' =>
      ∃ ROW : Array Value, ∃ G : Nat, ROW.size = G ∧ n + 1 ≤ G ∧ G ≤ maxLen ∧ ROW.toList.take i = (cur.toList.take n).take i ∧ e = .returned (.slice (some ⟨w.heap.size, 0, none⟩) (n + 1) G) ∧
      w' = ((((w.alloc (.cells ROW 131)).drew).setCells w.heap.size i [x]).drew).setCells w.heap.size (i + 1) ((cur.toList.take n).drop i) := by
  obtain ⟨i0, hi0, hz0, hzs, hzb⟩ := info_parts info_ptr
  have hz2 : ¬ ((i : Int) = (n : Int)) := by omega
  have hz3 : (n : Int) < (n : Int) + 1 := by omega
  have hsz1 : (Tryz.prog.info? 131).map (·.size) = some 1 := by rw [hi0]; simp [hzs]
  obtain ⟨cs, hcs⟩ : ∃ cs, cs = cur.toList.take n := ⟨_, rfl⟩
  rw [← hcs] at h1c ⊢
  have hcl : cs.length = n := by rw [hcs]; simp; omega
  have hcc : ∀ j u, cs[j]? = some u → w.cell? ⟨g, j, none⟩ = some u := fun j u hu => by
    rw [(blk_cells hcur j).1]
    rw [hcs, List.getElem?_take] at hu
    split at hu
    · simpa using hu
    · cases hu
  have hbw : g < w.heap.size := heap_lt hcur
  have hvw : vb < w.heap.size := heap_lt hx
  have hkk : (n : Int) + 1 - (i : Int) = ((n + 1 - i : Nat) : Int) := by omega
  have hik : i + (n + 1 - i) = n + 1 := by omega
  have hold : (Builtin.firstCells i0.size i (.slice (some ⟨g, 0, none⟩) i n)).run Tryz.prog w.drew = .ok (cs.take i).toArray w.drew := by
    rw [hzs]
    exact run_firstCells_some w.drew 1 i ⟨g, 0, none⟩ i n (cs.take i) (by rw [List.length_take]; omega) (fun j v hj => by
      rw [Addr.add_lit]
      rw [List.getElem?_take] at hj
      split at hj
      · show w.cell? _ = _
        rw [Nat.zero_add]; exact hcc j v hj
      · cases hj)
  obtain ⟨G, hG⟩ : ∃ G, G = grownCap w (n + 1) n 131 := ⟨_, rfl⟩
  obtain ⟨ROW, hROW⟩ : ∃ ROW : Array Value, ROW = (cs.take i).toArray ++ Builtin.zeroCells (Value.pointer none).cells (n + 1 - i) ++ Builtin.zeroCells (Value.pointer none).cells (G - (n + 1)) := ⟨_, rfl⟩
  have hrz : ∀ ty, (Builtin.append_ #[109, 3] ty #[.slice (some ⟨g, 0, none⟩) i n, .int .i64 ((n : Int) + 1 - (i : Int))]).run Tryz.prog w =
      .ok (.slice (some ⟨w.heap.size, 0, none⟩) (n + 1) G) (w.drew.alloc (.cells ROW 131)) := fun ty => by
    have h := Lib.run_append_grow_zeros w 109 3 ty 131 i0 _ .i64 .i64 Tryz.underlying109 Tryz.underlying3 hi0 hz0 (some ⟨g, 0, none⟩) i n (cs.take i) hold (n + 1 - i) (by omega) (by omega) (by omega) (by omega) (by rw [hzb]; omega) (by rw [hzb, hik]; exact growslice_fits (by omega) (by omega))
    rw [hik] at h
    rw [hkk, hROW, hG]
    exact h
  have hGn : n + 1 ≤ G := by rw [hG]; exact grownCap_ge w _ _ _
  have hG63 : G ≤ maxLen := by
    have := grownCap_le_maxLen w (n + 1) n 131 (by unfold maxLen; omega)
    rw [← hG] at this
    exact this
  have hRl : ROW.size = G := by
    rw [hROW]
    simp [Builtin.zeroCells, Value.cells]
    omega
  have hRt : ROW.toList.take i = cs.take i := by
    have hli : (cs.take i).length = i := by rw [List.length_take]; omega
    rw [hROW]
    simp only [Array.toList_append, List.append_assoc]
    rw [List.take_append_of_le_length (by simp only [hli]; exact Nat.le_refl _), List.take_take, Nat.min_self]
  obtain ⟨W1, hW1⟩ : ∃ W1, W1 = w.drew.alloc (.cells ROW 131) := ⟨_, rfl⟩
  have hN : ∀ j, j < n + 1 → (W1.cell? ⟨w.heap.size, j, none⟩).isSome = true := fun j hj => by
    rw [hW1, World.cell?_alloc_at (w := w.drew) ROW _ w.heap.size j rfl, Array.getElem?_eq_getElem (by omega)]; rfl
  have hNf : ∀ j, W1.frozen? ⟨w.heap.size, j, none⟩ = false := fun j => by rw [hW1]; exact World.frozen?_alloc_at (w := w.drew) ROW _ w.heap.size j rfl
  have hOb : ∀ j v, w.cell? ⟨g, j, none⟩ = some v → W1.cell? ⟨g, j, none⟩ = some v := fun j v h => by rw [hW1, World.cell?_alloc_past (w := w.drew) _ g j hbw]; exact h
  have hOv : ∀ j v, w.cell? ⟨vb, j, none⟩ = some v → W1.cell? ⟨vb, j, none⟩ = some v := fun j v h => by rw [hW1, World.cell?_alloc_past (w := w.drew) _ vb j hvw]; exact h
  have hcpA : ∀ (W : World), (∀ x, W.cell? x = W1.cell? x) → (∀ x, W.frozen? x = W1.frozen? x) → ∀ ty dc, (Builtin.copy_ #[109, 109] ty #[.slice (some ⟨w.heap.size, i, none⟩) (n + 1 - i) dc, .slice (some ⟨vb, 0, none⟩) 1 1]).run Tryz.prog W = .ok (goInt [x].length) (W.setCells w.heap.size i [x]) := fun W hWc hWf ty dc =>
    run_copy_cells W _ _ ty 131 w.heap.size i (n + 1 - i) dc ⟨vb, 0, none⟩ 1 1 [x] Tryz.underlying109 hsz1 (by simp only [Nat.min_def, List.length_cons, List.length_nil]; split <;> omega)
      (fun j v hj => by
        rw [Addr.add_lit, hWc]
        refine hOv _ v ?_
        rw [(blk_cells hx _).1, Nat.zero_add]
        simpa using hj)
      (fun j hj => by rw [hWc]; exact hN _ (by simp at hj; omega)) (fun j hj => by rw [hWf]; exact hNf _) (fun v hv => by simp at hv; subst hv; exact h1)
  have hG63' : G ≤ 9223372036854775807 := by unfold maxLen at hG63; omega
  have hGi : ¬ (G = i) := by omega
  have hGim : ¬ (G = i + 1) := by omega
  have hci : ¬ (n = i) := by omega
  have hbN : g ≠ w.heap.size := by omega
  have hdl : (cs.drop i).length = n - i := by rw [List.length_drop, hcl]
  have hcpB : ∀ (W : World), (∀ y, W.cell? y = (W1.setCells w.heap.size i [x]).cell? y) → (∀ y, W.frozen? y = (W1.setCells w.heap.size i [x]).frozen? y) → ∀ ty dc sc, (Builtin.copy_ #[109, 109] ty #[.slice (some ⟨w.heap.size, i + 1, none⟩) (n - i) dc, .slice (some ⟨g, i, none⟩) (n - i) sc]).run Tryz.prog W = .ok (goInt (cs.drop i).length) (W.setCells w.heap.size (i + 1) (cs.drop i)) := fun W hWc hWf ty dc sc =>
    run_copy_cells W _ _ ty 131 w.heap.size (i + 1) (n - i) dc ⟨g, i, none⟩ (n - i) sc (cs.drop i) Tryz.underlying109 hsz1 (by rw [hdl]; simp only [Nat.min_def]; split <;> omega)
      (fun j v hj => by
        rw [Addr.add_lit, hWc, World.cell?_setCells_out _ _ _ _ _ (fun h _ => absurd h hbN)]
        exact hOb _ v (hcc (i + j) v (by rwa [List.getElem?_drop] at hj)))
      (fun j hj => by rw [hWc]; exact isSome_setCells _ [x] i W1 (fun t ht => hN (i + t) (by simp at ht; omega)) _ (hN _ (by rw [hdl] at hj; omega)))
      (fun j hj => by rw [hWf, World.frozen?_setCells]; exact hNf _) (fun v hv => h1c v (List.mem_of_mem_drop hv))
  subst hW1
  have hE1 : ∀ y, ((w.alloc (.cells ROW 131)).drew).cell? y = (w.drew.alloc (.cells ROW 131)).cell? y := fun x => rfl
  have hE2 : ∀ y, ((w.alloc (.cells ROW 131)).drew).frozen? y = (w.drew.alloc (.cells ROW 131)).frozen? y := fun x => rfl
  have hF1 : ∀ y, (((w.alloc (.cells ROW 131)).drew.setCells w.heap.size i [x]).drew).cell? y = ((w.drew.alloc (.cells ROW 131)).setCells w.heap.size i [x]).cell? y := fun x => rfl
  have hF2 : ∀ y, (((w.alloc (.cells ROW 131)).drew.setCells w.heap.size i [x]).drew).frozen? y = ((w.drew.alloc (.cells ROW 131)).setCells w.heap.size i [x]).frozen? y := fun x => rfl
  have hA := hcpA _ hE1 hE2
  have hB := hcpB _ hF1 hF2
  have hw1 : IntKind.i64.wrap ((i : Int) + 1) = (i : Int) + 1 := by rw [IntKind.wrap_i64]; omega
  have hb1 : (0 : Int) ≤ (i : Int) + 1 := by omega
  have hin : i ≤ n := by omega
  have htn : ((i : Int) + 1).toNat = i + 1 := by omega
  have hb3 : (i : Int) ≤ (n : Int) := by omega
  have HRL := Lib.hid hRl
  have HRT := Lib.hid hRt
  have HG63 := Lib.hid hG63
  clear hkk hik hold hROW hG hRl hRt hcpA hcpB hN hNf hOb hOv hE1 hE2 hF1 hF2 hcs hcc hcl hdl hx hcur h1c hsz hG63
  go_enter Tryz.func152, Tryz.ntmps152
  go_wp2_with (first
    | (at_builtin; refine Lib.wpList_append_run _ rfl _ _ _ _ rfl _ _ rfl rfl _ _ (hrz _) ?_)
    | (at_builtin; refine wpList_copy_runI _ rfl _ _ 109 109 rfl _ _ rfl rfl (hA _ _) ?_))
  go_region_law (refine step_copy_runI rfl _ _ 109 109 rfl (.slice (some ⟨w.heap.size, i + 1, none⟩) (n - i) (G - (i + 1))) (.slice (some ⟨g, i, none⟩) (n - i) (n - i)) (by simp [Act.eval, Act.put]) (by simp [Act.eval, Act.put]) (hB 3 (G - (i + 1)) (n - i)) ?_)
  go_wp2
  go_ret
  exact ⟨ROW, G, HRL.out, hGn, HG63.out, HRT.out, rfl, rfl⟩

theorem take_eq_cells {cur : Array Value} {n : Nat} {xs : List Value} (h : cur.toList.take n = xs) : xs.length ≤ cur.size := by
  rw [← h]; simp; omega

theorem ins_get (xs : List Value) (x : Value) (i : Nat) (hi : i ≤ xs.length) (j : Nat) (u : Value) (h : (xs.take i ++ x :: xs.drop i)[j]? = some u) :
    (j < i ∧ (xs.take i)[j]? = some u) ∨ (j = i ∧ u = x) ∨ (∃ t, j = i + 1 + t ∧ (xs.drop i)[t]? = some u) := by
  have hl : (xs.take i).length = i := by rw [List.length_take]; omega
  by_cases h1 : j < i
  · rw [List.getElem?_append_left (by omega)] at h
    exact .inl ⟨h1, h⟩
  · rw [List.getElem?_append_right (by omega), hl] at h
    by_cases h2 : j = i
    · subst h2
      simp at h
      exact .inr (.inl ⟨rfl, h.symm⟩)
    · obtain ⟨t, rfl⟩ : ∃ t, j = i + 1 + t := ⟨j - i - 1, by omega⟩
      rw [show i + 1 + t - i = t + 1 by omega, List.getElem?_cons_succ] at h
      exact .inr (.inr ⟨t, rfl, h⟩)

/-- slices.Insert of one address at place i into a row that is owned. -/
theorem Insert_any (v : Value) (n i vb : Nat) (xs : List Value) (x : Value) (w : World) (hn : n ≤ 100) (hi : i ≤ n) (hown : w.ownsRow 0 131 1 v n xs) (hx : w.heap[vb]? = some (.cells #[x] 131 (0, 0))) (h1 : x.oneCell' = true)
    (hne : v.ownBlock ≠ some vb) (h1c : ∀ u ∈ xs, u.oneCell' = true) :
    Calls Tryz.prog 152 #[v, .int .i64 i, .slice (some ⟨vb, 0, none⟩) 1 1] w (InsPost w v (n + 1) (xs.take i ++ x :: xs.drop i)) := by
  have hxl : xs.length = n := by have := hown.1; omega
  by_cases hin : i = n
  · subst hin
    rw [List.take_of_length_le (by omega), List.drop_eq_nil_of_le (by omega)]
    exact Insert_end v i vb xs x w hn hown hx h1
  · rcases hown.2 with ⟨rfl, rfl⟩ | ⟨g, cap, cur, rfl, _, hg, hnc, hcm, hcs, htk⟩
    · exact absurd (Nat.le_zero.1 hi) hin
    · rw [Nat.mul_one] at hcs htk
      have hgv : vb ≠ g := fun e => hne (by rw [e]; rfl)
      have hcells : ∀ j u, xs[j]? = some u → w.cell? ⟨g, j, none⟩ = some u := fun j u hu => by
        have := hown.cells (g := g) rfl j u hu
        rwa [show (⟨g, 0, none⟩ : Addr).add j = ⟨g, j, none⟩ from by unfold Addr.add; split <;> simp_all] at this
      by_cases hroom : n + 1 ≤ cap
      · refine (Insert_shift g n cap i vb cur x w (by omega) hn hroom hcm hg hcs hx h1 hgv (by rw [htk]; exact h1c)).mono ?_
        rintro e w' ⟨rfl, rfl⟩
        rw [htk]
        obtain ⟨c1, hc1, hs1⟩ := shape_setCells g (xs.drop i) (i + 1) w.drew cur _ hg
        obtain ⟨c2, hc2, hs2⟩ := shape_setCells g [x] i _ c1 _ hc1
        have hsome : ∀ j, j < cap → (w.drew.cell? ⟨g, j, none⟩).isSome = true := fun j hj => by
          show (w.cell? _).isSome = true
          rw [(blk_cells hg j).1, Array.getElem?_eq_getElem (by omega)]; rfl
        have hdl : (xs.drop i).length = n - i := by rw [List.length_drop]; omega
        have hsome1 : ∀ j, j < cap → ((w.drew.setCells g (i + 1) (xs.drop i)).cell? ⟨g, j, none⟩).isSome = true := fun j hj =>
          isSome_setCells g (xs.drop i) (i + 1) w.drew (fun t ht => hsome _ (by omega)) j (hsome j hj)
        refine ⟨_, rfl, own_of_cells hc2 (by omega) hroom hcm (by simp; omega) ?_, World.grownBy.trans (World.grownBy.trans (b := w.drew) ⟨rfl, rfl, rfl, Nat.le_refl _, fun _ _ _ => rfl⟩ (grown_setCells g _ _ _)) (grown_setCells g _ _ _), .inl rfl⟩
        intro j u hu
        rcases ins_get xs x i (by omega) j u hu with ⟨hj, h⟩ | ⟨rfl, rfl⟩ | ⟨t, rfl, h⟩
        · rw [World.cell?_setCells_out g [x] i _ _ (fun _ _ => .inl hj), World.cell?_setCells_out g _ _ _ _ (fun _ _ => .inl (show j < i + 1 by omega))]
          rw [List.getElem?_take, if_pos hj] at h
          exact hcells j u h
        · exact World.cell?_setCells_in g [u] j _ (fun t ht => hsome1 _ (by simp at ht; omega)) 0 (by simp)
        · have htl : t < (xs.drop i).length := by
            rcases Nat.lt_or_ge t (xs.drop i).length with h' | h'
            · exact h'
            · rw [List.getElem?_eq_none h'] at h; cases h
          rw [World.cell?_setCells_out g [x] i _ _ (fun _ _ => .inr (by simp)), World.cell?_setCells_in g (xs.drop i) (i + 1) w.drew (fun s hs => hsome _ (by omega)) t htl]
          rw [List.getElem?_eq_getElem htl] at h
          exact h
      · obtain rfl : cap = n := by omega
        refine (Insert_grow g cap i vb cur x w (by omega) hn hg hcs hx h1 (by rw [htk]; exact h1c)).mono ?_
        rintro e w' ⟨ROW, G, hRs, hnG, hGm, hRt, rfl, rfl⟩
        rw [htk] at hRt ⊢
        have hb0 : ((w.alloc (.cells ROW 131)).drew).heap[w.heap.size]? = some (.cells ROW 131 (0, 0)) := heap_alloc_new w _
        obtain ⟨c1, hc1, hs1⟩ := shape_setCells w.heap.size [x] i _ ROW _ hb0
        have hc1' : ((((w.alloc (.cells ROW 131)).drew).setCells w.heap.size i [x]).drew).heap[w.heap.size]? = some (.cells c1 131 (0, 0)) := hc1
        obtain ⟨c2, hc2, hs2⟩ := shape_setCells w.heap.size (xs.drop i) (i + 1) _ c1 _ hc1'
        have hsome : ∀ j, j < G → (((w.alloc (.cells ROW 131)).drew).cell? ⟨w.heap.size, j, none⟩).isSome = true := fun j hj => by
          rw [(blk_cells hb0 j).1, Array.getElem?_eq_getElem (by omega)]; rfl
        have hdl : (xs.drop i).length = cap - i := by rw [List.length_drop]; omega
        have hsome1 : ∀ j, j < G → (((((w.alloc (.cells ROW 131)).drew).setCells w.heap.size i [x]).drew).cell? ⟨w.heap.size, j, none⟩).isSome = true := fun j hj =>
          isSome_setCells w.heap.size [x] i _ (fun t ht => hsome _ (by simp at ht; omega)) j (hsome j hj)
        have gr : w.grownBy (((((w.alloc (.cells ROW 131)).drew).setCells w.heap.size i [x]).drew).setCells w.heap.size (i + 1) (xs.drop i)) (some g) := by
          have a1 : w.grownBy ((w.alloc (.cells ROW 131)).drew) (some g) := by
            have := World.grownBy_alloc w (.cells ROW 131) (some g)
            exact ⟨this.os, this.tape, this.output, this.size, this.block⟩
          have a2 := grown_setCells w.heap.size [x] i ((w.alloc (.cells ROW 131)).drew)
          have a3 := grown_setCells w.heap.size (xs.drop i) (i + 1) ((((w.alloc (.cells ROW 131)).drew).setCells w.heap.size i [x]).drew)
          refine ⟨?_, ?_, ?_, ?_, fun k hk hn => ?_⟩
          · exact a3.os.trans (a2.os.trans a1.os)
          · exact a3.tape.trans (a2.tape.trans a1.tape)
          · exact a3.output.trans (a2.output.trans a1.output)
          · exact Nat.le_trans a1.size (Nat.le_trans a2.size a3.size)
          · have hks : k < ((w.alloc (.cells ROW 131)).drew).heap.size := by simp; omega
            have hkn : some k ≠ some w.heap.size := fun e => by injection e with e; omega
            exact (a3.block k (Nat.lt_of_lt_of_le hks a2.size) hkn).trans ((a2.block k hks hkn).trans (a1.block k hk hn))
        refine ⟨_, rfl, own_of_cells hc2 (by omega) hnG hGm (by simp; omega) ?_, gr, .inr ⟨_, rfl, Nat.le_refl _⟩⟩
        intro j u hu
        rcases ins_get xs x i (by omega) j u hu with ⟨hj, h⟩ | ⟨rfl, rfl⟩ | ⟨t, rfl, h⟩
        · rw [World.cell?_setCells_out _ _ _ _ _ (fun _ _ => .inl (show j < i + 1 by omega))]
          show (((w.alloc (.cells ROW 131)).drew).setCells w.heap.size i [x]).cell? _ = _
          rw [World.cell?_setCells_out _ [x] i _ _ (fun _ _ => .inl hj), (blk_cells hb0 j).1]
          rw [← hRt, List.getElem?_take, if_pos hj] at h
          simpa using h
        · rw [World.cell?_setCells_out _ _ _ _ _ (fun _ _ => .inl (show j < j + 1 by omega))]
          exact World.cell?_setCells_in w.heap.size [u] j _ (fun t ht => hsome _ (by simp at ht; omega)) 0 (by simp)
        · have htl : t < (xs.drop i).length := by
            rcases Nat.lt_or_ge t (xs.drop i).length with h' | h'
            · exact h'
            · rw [List.getElem?_eq_none h'] at h; cases h
          rw [World.cell?_setCells_in w.heap.size (xs.drop i) (i + 1) _ (fun s hs => hsome1 _ (by omega)) t htl]
          rw [List.getElem?_eq_getElem htl] at h
          exact h
end Go.Proofs.YtgocoofcelggcaaGreatDoor
namespace Go.Proofs.YtgocoofcelggcaaGreatDoor
open Go.RowKit
set_option linter.unusedVariables false
set_option linter.unusedSimpArgs false

set_option maxRecDepth 100000 in
theorem order_any (na nb : Nat) (a b : ByteArray) (w : World) (ha : w.cell? ⟨na, 0, none⟩ = some (.string a)) (hb : w.cell? ⟨nb, 0, none⟩ = some (.string b)) :
    Calls Tryz.prog 151 #[.pointer (some ⟨na, 0, none⟩), .pointer (some ⟨nb, 0, none⟩)] w fun e w' => e = .returned (.int .i64 (cmpB a b)) ∧ ∃ q, w' = w.drewN q := by
  go_enter Tryz.func151, Tryz.ntmps151
  go_wp2
  go_quiet ((go_at_call 50; exact Calls.quiet_of_same (Tryz.strings_Compare a b _)))
  go_wp2
  go_ret
  exact ⟨rfl, _, rfl⟩

structure SearchRes (ns : List ByteArray) (t : ByteArray) (w : World) (e : Ending) (w' : World) : Prop where
  val : ∃ (i : Nat) (f : Bool), i ≤ ns.length ∧ (∀ j (hj : j < ns.length), j < i → cmpB ns[j] t < 0) ∧ (∀ j (hj : j < ns.length), i ≤ j → 0 ≤ cmpB ns[j] t) ∧ e = .returned (.tuple #[.int .i64 i, .bool f])
  drew : ∃ q, w' = w.drewN q

structure SearchInv (ns : List ByteArray) (t : ByteArray) (w : World) (i j : Value) (wr : World) (a b : Nat) : Prop where
  ab : a ≤ b
  bl : b ≤ ns.length
  ia : i = .int .i64 (a : Int)
  jb : j = .int .i64 (b : Int)
  lo : ∀ k (hk : k < ns.length), k < a → cmpB ns[k] t < 0
  hi : ∀ k (hk : k < ns.length), b ≤ k → 0 ≤ cmpB ns[k] t
  drew : ∃ q, wr = w.drewN q

set_option maxRecDepth 100000 in
set_option maxHeartbeats 2000000 in
theorem search_any (ns : List ByteArray) (nb : ByteArray → Nat) (A : Option Addr) (c tb : Nat) (t : ByteArray) (w : World) (hn : ns.length ≤ 100)
    (hA : ∀ j (hj : j < ns.length), ∃ ad, A = some ad ∧ w.cell? (ad.add j) = some (.pointer (some ⟨nb ns[j], 0, none⟩)))
    (hN : ∀ j (hj : j < ns.length), w.cell? ⟨nb ns[j], 0, none⟩ = some (.string ns[j])) (ht : w.cell? ⟨tb, 0, none⟩ = some (.string t))
    (hmono : ∀ i j (hi : i < ns.length) (hj : j < ns.length), i ≤ j → cmpB ns[j] t < 0 → cmpB ns[i] t < 0) :
    Calls Tryz.prog 150 #[.slice A ns.length c, .pointer (some ⟨tb, 0, none⟩), .func (.func 151) #[] #[]] w (SearchRes ns t w) := by
  have HA := Lib.hid hA
  have HN := Lib.hid hN
  have HT := Lib.hid ht
  have HM := Lib.hid hmono
  clear hA hN ht hmono
  go_enter Tryz.func150, Tryz.ntmps150
  go_wp2
  go_loopw [9, 10] (fun i j wr => ∃ a b, SearchInv ns t w i j wr a b) (fun i j _ => ((intOf j).toNat - (intOf i).toNat))
  case atStart => exact ⟨0, ns.length, Nat.zero_le _, Nat.le_refl _, rfl, rfl, fun _ _ h => absurd h (by omega), fun _ _ h => absurd h (by omega), 0, rfl⟩
  case round =>
    obtain ⟨a, b, hab, hbl, rfl, rfl, hlo, hhi, q, rfl⟩ := hrel
    have HLO := Lib.hid hlo
    have HHI := Lib.hid hhi
    clear hlo hhi
    by_cases hlt : a < b
    · obtain ⟨h, hh⟩ : ∃ h, h = (a + b) / 2 := ⟨_, rfl⟩
      have h1 : a ≤ h := by omega
      have h2 : h < b := by omega
      have hnl : h < ns.length := by omega
      obtain ⟨ad, rfl, hc0⟩ := HA.out h hnl
      have hnm := HN.out h hnl
      obtain ⟨s, hs⟩ : ∃ s, s = ns[h] := ⟨_, rfl⟩
      rw [← hs] at hc0 hnm
      have hcq : (w.drewN q).cell? (ad.add h) = some (.pointer (some ⟨nb s, 0, none⟩)) := hc0
      have hord := order_any (nb s) tb s t (w.drewN q) hnm HT.out
      have HS := Lib.hid hs
      have HH := Lib.hid hh
      clear hs hc0 hnm hh
      have eh : ((a : Int) + (b : Int)) / 2 = (h : Int) := by rw [HH.out]; omega
      by_cases hc : cmpB s t < 0
      · go_wp2_with (go_at_call 151; refine hord.mono ?_; rintro e w' ⟨rfl, q2, rfl⟩)
        go_roundw
        case rel => exact ⟨h + 1, b, by omega, hbl, by go_num, rfl, fun k hk hlt' => by
            have hm := HM.out k h hk hnl (by omega)
            rw [← HS.out] at hm
            exact hm hc, HHI.out, q + q2, rfl⟩
        case measure => simp only [intOf]; omega
      · go_wp2_with (go_at_call 151; refine hord.mono ?_; rintro e w' ⟨rfl, q2, rfl⟩)
        go_roundw
        case rel => exact ⟨a, h, by omega, by omega, rfl, rfl, HLO.out, fun k hk hle => by
            have hm := HM.out h k hnl hk hle
            rw [← HS.out] at hm
            omega, q + q2, rfl⟩
        case measure => simp only [intOf]; omega
    · obtain rfl : a = b := by omega
      by_cases hal : a < ns.length
      · obtain ⟨ad, rfl, hc0⟩ := HA.out a hal
        have hnm := HN.out a hal
        obtain ⟨s, hs⟩ : ∃ s, s = ns[a] := ⟨_, rfl⟩
        rw [← hs] at hc0 hnm
        have hcq : (w.drewN q).cell? (ad.add a) = some (.pointer (some ⟨nb s, 0, none⟩)) := hc0
        have hord := order_any (nb s) tb s t (w.drewN q) hnm HT.out
        have HS := Lib.hid hs
        clear hs hc0 hnm
        have hd : decide ((a : Int) < (ns.length : Int)) = true := decide_eq_true (by omega)
        go_wp2_with (go_at_call 151; refine hord.mono ?_; rintro e w' ⟨rfl, q2, rfl⟩)
        go_ret2
        exact ⟨⟨a, _, by omega, HLO.out, HHI.out, rfl⟩, q + q2, rfl⟩
      · have hd : decide ((a : Int) < (ns.length : Int)) = false := decide_eq_false (by omega)
        go_wp2_with fail
        go_ret2
        exact ⟨⟨a, _, by omega, HLO.out, HHI.out, rfl⟩, q, rfl⟩
end Go.Proofs.YtgocoofcelggcaaGreatDoor
namespace Go.Proofs.YtgocoofcelggcaaGreatDoor
open Go.RowKit
set_option linter.unusedVariables false
set_option linter.unusedSimpArgs false

theorem own_slice2 {w : World} {B e n : Nat} {v : Value} {xs : List Value} (h : w.ownsRow B e 1 v n xs) : ∃ A c, v = .slice A n c ∧ ∀ j u, xs[j]? = some u → ∃ ad, A = some ad ∧ w.cell? (ad.add j) = some u := by
  rcases h.2 with ⟨rfl, rfl⟩ | ⟨g, cap, cur, rfl, hb, hg, r⟩
  · have hx : xs = [] := by simpa using h.1
    subst hx
    exact ⟨none, 0, rfl, fun j u hu => by simp at hu⟩
  · exact ⟨_, cap, rfl, fun j u hu => ⟨_, rfl, h.cells (g := g) rfl j u hu⟩⟩

structure PutPost (ns : List ByteArray) (ps : List Value) (t : ByteArray) (p : Value) (w : World) (v : Value) (e : Ending) (w' : World) : Prop where
  ex : ∃ i v', i ≤ ns.length ∧ (∀ j (hj : j < ns.length), j < i → cmpB ns[j] t < 0) ∧ (∀ j (hj : j < ns.length), i ≤ j → 0 ≤ cmpB ns[j] t) ∧ e = .returned v' ∧
    w'.ownsRow 0 131 1 v' (ns.length + 1) (ps.take i ++ p :: ps.drop i) ∧ w.grownBy w' v.ownBlock ∧ (v'.ownBlock = v.ownBlock ∨ ∃ k, v'.ownBlock = some k ∧ w.heap.size ≤ k)

set_option maxRecDepth 100000 in
set_option maxHeartbeats 1000000 in
theorem put_any (ns : List ByteArray) (nb : ByteArray → Nat) (v : Value) (tb : Nat) (t : ByteArray) (w : World) (hn : ns.length ≤ 99)
    (hown : w.ownsRow 0 131 1 v ns.length (ns.map fun s => .pointer (some ⟨nb s, 0, none⟩)))
    (hN : ∀ j (hj : j < ns.length), w.cell? ⟨nb ns[j], 0, none⟩ = some (.string ns[j])) (ht : w.cell? ⟨tb, 0, none⟩ = some (.string t))
    (hmono : ∀ i j (hi : i < ns.length) (hj : j < ns.length), i ≤ j → cmpB ns[j] t < 0 → cmpB ns[i] t < 0) :
    Calls Tryz.prog 142 #[v, .pointer (some ⟨tb, 0, none⟩)] w (PutPost ns (ns.map fun s => .pointer (some ⟨nb s, 0, none⟩)) t (.pointer (some ⟨tb, 0, none⟩)) w v) := by
  obtain ⟨A, c, rfl, hcell⟩ := own_slice2 hown
  have hs := search_any ns nb A c tb t w (by omega) (fun j hj => hcell j _ (by simp [hj])) hN ht hmono
  have HO := Lib.hid hown
  clear hown hcell hN ht hmono
  go_enter Tryz.func142, Tryz.ntmps142
  go_wp2_with (go_at_call 150; refine hs.mono ?_; rintro e w' ⟨⟨i, f, hi, hlo, hhi, rfl⟩, q, rfl⟩; have HLO := Lib.hid hlo; have HHI := Lib.hid hhi; clear hlo hhi)
  have ho : ((w.drewN q).alloc (.cells #[.pointer (some ⟨tb, 0, none⟩)] 131)).ownsRow 0 131 1 (.slice A ns.length c) ns.length (ns.map fun s => .pointer (some ⟨nb s, 0, none⟩)) := by
    have : (w.drewN q).ownsRow 0 131 1 (.slice A ns.length c) ns.length (ns.map fun s => .pointer (some ⟨nb s, 0, none⟩)) := HO.out
    exact this.alloc _
  have hnew := heap_alloc_new (w.drewN q) (.cells #[.pointer (some ⟨tb, 0, none⟩)] 131)
  have hlt := fun k hk => (HO.out.lt k hk).2
  have hins := Insert_any (.slice A ns.length c) ns.length i w.heap.size (ns.map fun s => .pointer (some ⟨nb s, 0, none⟩)) (.pointer (some ⟨tb, 0, none⟩)) _ (by omega) hi ho hnew rfl (fun e => by have := hlt _ e; omega) (by simp [Value.oneCell'])
  clear ho hnew hlt
  go_wp2_with (go_at_call 152; refine hins.mono ?_; rintro e w' ⟨v', rfl, hown', hg, hat⟩)
  go_ret
  refine ⟨i, v', hi, HLO.out, HHI.out, rfl, hown', ?_, ?_⟩
  · have a1 := World.grownBy_alloc (w.drewN q) (.cells #[.pointer (some ⟨tb, 0, none⟩)] 131) (Value.slice A ns.length c).ownBlock
    have a2 : w.grownBy ((w.drewN q).alloc (.cells #[.pointer (some ⟨tb, 0, none⟩)] 131)) (Value.slice A ns.length c).ownBlock := ⟨a1.os, a1.tape, a1.output, a1.size, a1.block⟩
    exact a2.trans hg
  · rcases hat with h | ⟨k, h, hk⟩
    · exact .inl h
    · exact .inr ⟨k, h, by simp at hk; omega⟩
end Go.Proofs.YtgocoofcelggcaaGreatDoor
namespace Go.Proofs.YtgocoofcelggcaaGreatDoor
open Go.RowKit
set_option linter.unusedVariables false
set_option linter.unusedSimpArgs false

theorem Parent_any (s : ByteArray) (w : World) (hs : s.size ≤ 140737488355328) :
    Calls Tryz.prog 86 #[.string s] w fun e w' => e = .returned (.tuple #[.string ((parentF s).getD ⟨#[]⟩), .bool (parentF s).isSome]) ∧ Below w.heap.size w w' := by
  have hl := Tryz.strings_LastIndexByte s 58 (by omega) w
  have hg := fun w => Good_any s w (by unfold maxLen; omega)
  obtain ⟨i, hi⟩ : ∃ i, i = Lib.lastIndexByte s 58 := ⟨_, rfl⟩
  have hle : i ≤ s.size := by
    rw [hi]
    rcases Lib.lastIndexByte_spec s 58 with ⟨h, _⟩ | ⟨j, hj, h, _⟩ <;> rw [h] <;> omega
  obtain ⟨P, hP⟩ : ∃ P, P = parentF s := ⟨_, rfl⟩
  rw [← hP]
  have HP := Lib.hid hP
  clear hP
  rw [← hi] at hl
  have HI := Lib.hid hi
  clear hi
  by_cases h0 : i < 0
  · have e : P = none := by rw [HP.out]; unfold parentF; rw [if_neg (by rw [← HI.out]; omega)]
    subst e
    go_enter Tryz.func86, Tryz.ntmps86
    go_wp2_with (go_at_call 124; refine hl.mono ?_; rintro e w' ⟨rfl, rfl⟩)
    go_ret2
    exact ⟨rfl, Below.refl _ _⟩
  · cases hb : goodB s.data.toList with
    | false =>
      have e : P = none := by rw [HP.out]; unfold parentF; rw [if_neg (by rw [hb]; simp)]
      subst e
      rw [hb] at hg
      clear hb
      go_enter Tryz.func86, Tryz.ntmps86
      go_wp2_with (first | (go_at_call 124; refine hl.mono ?_; rintro e w' ⟨rfl, rfl⟩) | (go_at_call 125; refine (hg _).mono ?_; rintro e w' ⟨rfl, hbel⟩))
      go_ret2
      exact ⟨rfl, hbel⟩
    | true =>
      obtain ⟨k, rfl⟩ : ∃ k : Nat, i = k := ⟨i.toNat, by omega⟩
      have e : P = some (s.extract 0 k) := by rw [HP.out]; unfold parentF; rw [if_pos ⟨hb, by rw [← HI.out]; omega⟩, ← HI.out]; simp
      subst e
      rw [hb] at hg
      clear hb
      have hk : k ≤ s.size := by omega
      go_enter Tryz.func86, Tryz.ntmps86
      go_wp2_with (first | (go_at_call 124; refine hl.mono ?_; rintro e w' ⟨rfl, rfl⟩) | (go_at_call 125; refine (hg _).mono ?_; rintro e w' ⟨rfl, hbel⟩))
      go_ret2
      exact ⟨rfl, hbel⟩
end Go.Proofs.YtgocoofcelggcaaGreatDoor
namespace Go.Proofs.YtgocoofcelggcaaGreatDoor
open Go.RowKit
set_option linter.unusedVariables false
set_option linter.unusedSimpArgs false

theorem new_chart (w : World) : ChartAt ((w.alloc (.map #[] 0)).alloc (.cells #[.map (some w.heap.size), .slice none 0 0] 111)) (fun k => w.heap.size ≤ k ∧ k < w.heap.size + 2) (w.heap.size + 1) [] := by
  refine ⟨w.heap.size, .slice none 0 0, fun _ => 0, fun _ => .slice none 0 0, [], ?_⟩
  refine { hC := ?_, hM := ?_, hps := fun _ => rfl, hlen := rfl, le := by decide, hN := ?_, hK := ?_, hR := World.ownsRow_nil _ _ _ _, fC := by omega, fM := by omega, fN := ?_, fK := ?_, fR := ?_, inj := ?_, dK := ?_, dR := ?_ }
  · have := heap_alloc_new (w.alloc (.map #[] 0)) (.cells #[.map (some w.heap.size), .slice none 0 0] 111)
    simpa using this
  · refine ⟨#[], 0, ?_, rfl⟩
    rw [Below.heap_alloc _ _ _ (by simp), heap_alloc_new]
  all_goals simp [Value.ownBlock]

theorem New_any (w : World) :
    Calls Tryz.prog 31 #[] w fun e w' => e = .returned (ptrV (w.heap.size + 1)) ∧ ChartAt w' (fun k => w.heap.size ≤ k ∧ k < w.heap.size + 2) (w.heap.size + 1) [] ∧ w'.heap.size = w.heap.size + 2 ∧ Below w.heap.size w w' := by
  have hmm := @run_makeMap Tryz.prog
  have HN := Lib.hid (new_chart w)
  go_enter Tryz.func31, Tryz.ntmps31
  go_wp2
  go_ret
  exact ⟨rfl, HN.out, by simp, ((Below.refl _ _).alloc (Nat.le_refl _) _).alloc (by simp) _⟩

/-- The names of those in a list. -/
def namesV (l : List Acct) : List Value := l.map fun a => .string a.name

theorem namesV_take (l : List Acct) (k : Nat) (h : k < l.length) : namesV (l.take (k + 1)) = namesV (l.take k) ++ [.string l[k].name] := by
  rw [List.take_succ_eq_append_getElem h]
  simp only [namesV, List.map_append, List.map_cons, List.map_nil]

structure KidsInv (w0 : World) (l : List Acct) (v i : Value) (wr : World) (k : Nat) : Prop where
  le : k ≤ l.length
  at_ : i = .int .i64 (k : Int)
  own : wr.ownsRow w0.heap.size 9 1 v k (namesV (l.take k))
  bel : Below w0.heap.size w0 wr
theorem info_str : (Tryz.prog.info? 9).map (fun i => (i.zero, i.size, i.bytes)) = some (some (.string ByteArray.empty), 1, 16) := by kernel_rfl

set_option maxRecDepth 100000 in
set_option maxHeartbeats 1000000 in
/-- The walk of Kids' second half: the loop over a list of nodes. -/
theorem Kids_list (cb mb pb : Nat) (name : ByteArray) (A : Option Addr) (c : Nat) (l : List Acct) (nb : ByteArray → Nat) (w : World) (hl : l.length ≤ 100)
    (hr : ∃ rv, w.cell? ⟨cb, 1, none⟩ = some (.slice rv.1 rv.2.1 rv.2.2) ∧ w.cell? ⟨cb, 0, none⟩ = some (.map (some mb)) ∧ ((name.toList.isEmpty = true ∧ rv = (A, l.length, c)) ∨ (name.toList.isEmpty = false ∧
      Sem.run Tryz.prog (Instr.lookup 108 (.map (some mb)) (.string name) false) w = .ok (.pointer (some ⟨pb, 0, none⟩)) w ∧ w.cell? ⟨pb, 4, none⟩ = some (.slice A l.length c))))
    (hA : ∀ j (hj : j < l.length), ∃ ad, A = some ad ∧ ad.block < w.heap.size ∧ w.cell? (ad.add j) = some (ptrV (nb l[j].name)))
    (hN : ∀ j (hj : j < l.length), nb l[j].name < w.heap.size ∧ w.cell? ⟨nb l[j].name, 0, none⟩ = some (.string l[j].name)) :
    Calls Tryz.prog 90 #[.pointer (some ⟨cb, 0, none⟩), .string name] w fun e w' => ∃ v, e = .returned v ∧ w'.ownsRow w.heap.size 9 1 v l.length (namesV l) ∧ Below w.heap.size w w' := by
  obtain ⟨i0, hi, hz0, hz1, hz2⟩ := info_parts info_str
  have HA := Lib.hid hA
  have HN := Lib.hid hN
  clear hA hN
  obtain ⟨⟨r1, r2, r3⟩, hc1, hc0, hsel⟩ := hr
  rcases hsel with ⟨hne, hrv⟩ | ⟨hne, hlk, hc4⟩
  · obtain ⟨rfl, rfl, rfl⟩ : r1 = A ∧ r2 = l.length ∧ r3 = c := by simpa using hrv
    simp only at hc1
    clear hrv
    go_enter Tryz.func90, Tryz.ntmps90
    go_wp2
    go_loopw [7, 30] (fun v i wr => ∃ k, KidsInv w l v i wr k) (fun _ i _ => l.length - (intOf i).toNat)
    case atStart => exact ⟨0, Nat.zero_le _, rfl, World.ownsRow_nil _ _ _ _, Below.refl _ _⟩
    case round =>
      obtain ⟨k, hk, rfl, hown, hbel⟩ := hrel
      by_cases hlt : k < l.length
      · obtain ⟨ad, rfl, hab, hcell⟩ := HA.out k hlt
        obtain ⟨hnb, hname⟩ := HN.out k hlt
        obtain ⟨a, ha⟩ : ∃ a, a = l[k] := ⟨_, rfl⟩
        rw [← ha] at hcell hnb hname
        unfold ptrV at hcell
        have hcell' := ((hbel.cell (p := ad.add k) (by rw [show (ad.add k).block = ad.block from by unfold Addr.add; split <;> rfl]; exact hab)).trans hcell)
        have hname' := (hbel.cell (p := ⟨nb a.name, 0, none⟩) hnb).trans hname
        have HO := Lib.hid hown
        have HAl := Lib.hid ha
        clear ha hown hcell hname
        go_wp2_with (at_builtin; refine wpList_append_own _ rfl _ _ 44 rfl w.heap.size 9 i0 (.string ByteArray.empty) 1 16 Tryz.underlying44 hi hz0 hz1 hz2 rfl (by decide) _ _ _ rfl (HO.out.alloc _) ⟨wr.heap.size, 0, none⟩ 1 1 [.string a.name] rfl rfl ?c1 ?c2 ?c3 ?c4 ?c5 ?_)
        case c1 => exact cell_one_new _ _ _
        case c2 => simp [Value.oneCell']
        case c3 => unfold maxLen; omega
        case c4 => omega
        case c5 => have := hbel.size; simp; omega
        intro v' w1 hown' hgrow _
        have hb1 : Below w.heap.size w w1 := (hbel.alloc hbel.size _).grown hgrow (by have := hbel.size; simp; omega) fun k' hk' => (HO.out.lt k' hk').1
        have HO1 := Lib.hid hown'
        clear hown' hgrow
        go_wp2
        go_roundw
        case rel => exact ⟨k + 1, by omega, by go_num, by
          have := HO1.out
          rw [namesV_take l k hlt, ← HAl.out]
          exact this, hb1⟩
        case measure => simp [intOf]; omega
      · go_wp2
        go_ret
        obtain rfl : k = l.length := by omega
        exact ⟨_, rfl, by simpa using hown, hbel⟩
  · simp only at hc1
    go_enter Tryz.func90, Tryz.ntmps90
    go_wp2
    go_loopw [7, 30] (fun v i wr => ∃ k, KidsInv w l v i wr k) (fun _ i _ => l.length - (intOf i).toNat)
    case atStart => exact ⟨0, Nat.zero_le _, rfl, World.ownsRow_nil _ _ _ _, Below.refl _ _⟩
    case round =>
      obtain ⟨k, hk, rfl, hown, hbel⟩ := hrel
      by_cases hlt : k < l.length
      · obtain ⟨ad, rfl, hab, hcell⟩ := HA.out k hlt
        obtain ⟨hnb, hname⟩ := HN.out k hlt
        obtain ⟨a, ha⟩ : ∃ a, a = l[k] := ⟨_, rfl⟩
        rw [← ha] at hcell hnb hname
        unfold ptrV at hcell
        have hcell' := ((hbel.cell (p := ad.add k) (by rw [show (ad.add k).block = ad.block from by unfold Addr.add; split <;> rfl]; exact hab)).trans hcell)
        have hname' := (hbel.cell (p := ⟨nb a.name, 0, none⟩) hnb).trans hname
        have HO := Lib.hid hown
        have HAl := Lib.hid ha
        clear ha hown hcell hname
        go_wp2_with (at_builtin; refine wpList_append_own _ rfl _ _ 44 rfl w.heap.size 9 i0 (.string ByteArray.empty) 1 16 Tryz.underlying44 hi hz0 hz1 hz2 rfl (by decide) _ _ _ rfl (HO.out.alloc _) ⟨wr.heap.size, 0, none⟩ 1 1 [.string a.name] rfl rfl ?c1 ?c2 ?c3 ?c4 ?c5 ?_)
        case c1 => exact cell_one_new _ _ _
        case c2 => simp [Value.oneCell']
        case c3 => unfold maxLen; omega
        case c4 => omega
        case c5 => have := hbel.size; simp; omega
        intro v' w1 hown' hgrow _
        have hb1 : Below w.heap.size w w1 := (hbel.alloc hbel.size _).grown hgrow (by have := hbel.size; simp; omega) fun k' hk' => (HO.out.lt k' hk').1
        have HO1 := Lib.hid hown'
        clear hown' hgrow
        go_wp2
        go_roundw
        case rel => exact ⟨k + 1, by omega, by go_num, by
          have := HO1.out
          rw [namesV_take l k hlt, ← HAl.out]
          exact this, hb1⟩
        case measure => simp [intOf]; omega
      · go_wp2
        go_ret
        obtain rfl : k = l.length := by omega
        exact ⟨_, rfl, by simpa using hown, hbel⟩

set_option maxRecDepth 100000 in
theorem Kids_nil (cb mb : Nat) (name : ByteArray) (rv : Option Addr × Nat × Nat) (w : World) (hc1 : w.cell? ⟨cb, 1, none⟩ = some (.slice rv.1 rv.2.1 rv.2.2)) (hc0 : w.cell? ⟨cb, 0, none⟩ = some (.map (some mb)))
    (hne : name.toList.isEmpty = false) (hlk : Sem.run Tryz.prog (Instr.lookup 108 (.map (some mb)) (.string name) false) w = .ok (.pointer none) w) :
    Calls Tryz.prog 90 #[.pointer (some ⟨cb, 0, none⟩), .string name] w fun e w' => e = .returned (.slice none 0 0) ∧ w = w' := by
  go_enter Tryz.func90, Tryz.ntmps90
  go_wp2
  go_ret
  exact ⟨rfl, rfl⟩

/-- Whom Kids tells. -/
def kidsL (L : List Acct) (name : ByteArray) : List Acct :=
  if name.toList.isEmpty then rootsA L else match findA L name with
    | none => []
    | some a => kidsA L a.name

theorem own_slice' {w : World} {B e n : Nat} {v : Value} {xs : List Value} (h : w.ownsRow B e 1 v n xs) : ∃ A c, v = .slice A n c ∧ ∀ j u, xs[j]? = some u → ∃ ad, A = some ad ∧ ad.block < w.heap.size ∧ w.cell? (ad.add j) = some u := by
  rcases h.2 with ⟨rfl, rfl⟩ | ⟨g, cap, cur, rfl, hb, hg, r⟩
  · have hx : xs = [] := by simpa using h.1
    subst hx
    exact ⟨none, 0, rfl, fun j u hu => by simp at hu⟩
  · exact ⟨_, cap, rfl, fun j u hu => ⟨_, rfl, heap_lt hg, h.cells (g := g) rfl j u hu⟩⟩

theorem Kids_any {w : World} {F : Nat → Prop} {cb : Nat} {L : List Acct} (h : ChartAt w F cb L) (name : ByteArray) :
    Calls Tryz.prog 90 #[.pointer (some ⟨cb, 0, none⟩), .string name] w fun e w' => ∃ v, e = .returned v ∧ w'.ownsRow w.heap.size 9 1 v (kidsL L name).length (namesV (kidsL L name)) ∧ Below w.heap.size w w' := by
  obtain ⟨mb, rv, nb, kv, ps, h⟩ := h
  have hlk := h.lookup name
  have hc0 : w.cell? ⟨cb, 0, none⟩ = some (.map (some mb)) := by rw [cell_of_blk h.hC]; rfl
  have hc1 : w.cell? ⟨cb, 1, none⟩ = some rv := by rw [cell_of_blk h.hC]; rfl
  obtain ⟨Ar, cr, rfl, hrow⟩ := own_slice' h.hR
  have hsub : ∀ (l : List Acct), (∀ b ∈ l, b ∈ L) → ∀ j (hj : j < l.length), nb l[j].name < w.heap.size ∧ w.cell? ⟨nb l[j].name, 0, none⟩ = some (.string l[j].name) := fun l hl j hj => by
    have hm := h.hN _ (hl _ (List.getElem_mem hj))
    exact ⟨heap_lt hm, by rw [cell_of_blk hm]; rfl⟩
  have hle := h.le
  unfold kidsL
  by_cases he : name.toList.isEmpty = true
  · rw [if_pos he]
    refine Kids_list cb mb 0 name Ar cr (rootsA L) nb w ?_ ⟨(Ar, (rootsA L).length, cr), hc1, hc0, .inl ⟨he, rfl⟩⟩ ?_ (hsub _ fun b hb => (List.mem_filter.1 hb).1)
    · have := List.length_filter_le (fun a : Acct => decide (parentF a.name = none)) L
      unfold rootsA; omega
    · intro j hj
      exact hrow j _ (by simp [hj])
  · have he' : name.toList.isEmpty = false := by simpa using he
    rw [if_neg he]
    cases hf : findA L name with
    | none =>
      rw [hf] at hlk
      exact (Kids_nil cb mb name (Ar, _, cr) w hc1 hc0 he' hlk).mono fun e w' ⟨h1, h2⟩ => ⟨_, h1, by subst h2; exact World.ownsRow_nil _ _ _ _, by subst h2; exact Below.refl _ _⟩
    | some a =>
      rw [hf] at hlk
      obtain ⟨ha, rfl⟩ := findA_some hf
      obtain ⟨Ak, ck, hkv, hrk⟩ := own_slice' (h.hK a ha)
      refine Kids_list cb mb (nb a.name) a.name Ak ck (kidsA L a.name) nb w ?_ ⟨(Ar, _, cr), hc1, hc0, .inr ⟨he', hlk, ?_⟩⟩ ?_ (hsub _ fun b hb => (List.mem_filter.1 hb).1)
      · have := List.length_filter_le (fun b : Acct => decide (parentF b.name = some a.name)) L
        unfold kidsA; omega
      · rw [cell_of_blk (h.hN a ha), ← hkv]; rfl
      · intro j hj
        exact hrk j _ (by simp [hj])
end Go.Proofs.YtgocoofcelggcaaGreatDoor
