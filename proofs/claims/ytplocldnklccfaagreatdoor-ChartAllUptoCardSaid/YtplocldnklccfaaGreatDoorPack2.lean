/- May and Find of a chart; New and Kids of a chart; add: an account that may be there; add over charts: the list of accounts has one more; add over charts: the chart of one account more; add over charts: the whole; An iterator that walks a structure in memory and holds loops over iterators of its own; a law for loops over such. No function of the program is named; below: a list of accounts, each with all that is below it behind it; What a chart's list of accounts is; the list told from the roots on is a shuffling of it. No program. -/
import Derived.Test.YtplocldnklccfaaGreatDoorPack1
import Derived.OwnWalk
import Derived.Maps.AppendAt
import Derived.Carry
import Derived.RegionTactic
import Derived.StillTailTactics
import Derived.RangeFuncNested
import Derived.RangeFuncBound
import Derived.RangeFuncCalls
import Derived.RangeFuncLeaves
import Derived.RangeFuncWrites
import Derived.Shelf.Abstract
import Derived.Shelf.RegionOpen
import Derived.WalkKit
import Derived.OwnWalkIn
import Derived.TacticsInMore
import Derived.LoopNIn
import Derived.LoopIn
namespace Go.Proofs.YtplocldnklccfaaGreatDoor
open Go.RowKit
set_option linter.unusedVariables false
set_option linter.unusedSimpArgs false

theorem cell_of_blk {w : World} {b i : Nat} {cs : Array Value} {t : TypeId} {fr : Nat × Nat} (h : w.heap[b]? = some (.cells cs t fr)) : w.cell? ⟨b, i, none⟩ = cs[i]? := cell_of_row w b i cs t fr h

theorem May_none (cb mb : Nat) (name : ByteArray) (day : Int) (w : World) (hc0 : w.cell? ⟨cb, 0, none⟩ = some (.map (some mb)))
    (hlk : Sem.run Tryz.prog (Instr.lookup 145 (.map (some mb)) (.string name) false) w = .ok (.pointer none) w) :
    Calls Tryz.prog 154 #[.pointer (some ⟨cb, 0, none⟩), .string name, .int .i64 day] w fun e w' => e = .returned (.int .i64 61) ∧ w = w' := by
  go_enter Tryz.func154, Tryz.ntmps154
  go_wp2
  go_ret
  exact ⟨rfl, rfl⟩

set_option maxRecDepth 100000 in
theorem May_some (cb mb nb : Nat) (name : ByteArray) (day op : Int) (cl : Bool) (w : World) (hc0 : w.cell? ⟨cb, 0, none⟩ = some (.map (some mb)))
    (hlk : Sem.run Tryz.prog (Instr.lookup 145 (.map (some mb)) (.string name) false) w = .ok (.pointer (some ⟨nb, 0, none⟩)) w)
    (h2 : w.cell? ⟨nb, 2, none⟩ = some (.int .i64 op)) (h3 : w.cell? ⟨nb, 3, none⟩ = some (.bool cl)) :
    Calls Tryz.prog 154 #[.pointer (some ⟨cb, 0, none⟩), .string name, .int .i64 day] w fun e w' => e = .returned (.int .i64 (if cl then 63 else if day < op then 66 else 0)) ∧ w = w' := by
  cases cl
  · by_cases h : day < op
    · go_enter Tryz.func154, Tryz.ntmps154
      go_wp2
      go_ret
      exact ⟨by simp [h], rfl⟩
    · go_enter Tryz.func154, Tryz.ntmps154
      go_wp2
      go_ret
      exact ⟨by simp [h], rfl⟩
  · go_enter Tryz.func154, Tryz.ntmps154
    go_wp2
    go_ret
    exact ⟨rfl, rfl⟩

/-- What May answers. -/
def mayE (L : List Acct) (name : ByteArray) (day : Int) : Int :=
  match findA L name with
  | none => 61
  | some a => if a.closed then 63 else if day < a.opened then 66 else 0

theorem May_any {w : World} {F : Nat → Prop} {cb : Nat} {L : List Acct} (h : ChartAt w F cb L) (name : ByteArray) (day : Int) :
    Calls Tryz.prog 154 #[.pointer (some ⟨cb, 0, none⟩), .string name, .int .i64 day] w fun e w' => e = .returned (.int .i64 (mayE L name day)) ∧ w = w' := by
  obtain ⟨mb, rv, nb, kv, ps, h⟩ := h
  have hlk := h.lookup name
  have hc0 : w.cell? ⟨cb, 0, none⟩ = some (.map (some mb)) := by rw [cell_of_blk h.hC]; rfl
  unfold mayE
  cases hf : findA L name with
  | none =>
    rw [hf] at hlk
    exact May_none cb mb name day w hc0 hlk
  | some a =>
    rw [hf] at hlk
    obtain ⟨ha, rfl⟩ := findA_some hf
    exact May_some cb mb (nb a.name) a.name day a.opened a.closed w hc0 hlk (by rw [cell_of_blk (h.hN a ha)]; rfl) (by rw [cell_of_blk (h.hN a ha)]; rfl)

def accV (a : Acct) : Value := .agg #[.string a.name, .int .i64 a.typ, .int .i64 a.opened, .bool a.closed]
def noA : Acct := ⟨⟨#[]⟩, 0, 0, false⟩

set_option maxRecDepth 100000 in
theorem Find_none (cb mb : Nat) (name : ByteArray) (w : World) (hlt : cb < w.heap.size) (hc0 : w.cell? ⟨cb, 0, none⟩ = some (.map (some mb)))
    (hlk : ∀ o, Sem.run Tryz.prog (Instr.lookup 145 (.map (some mb)) (.string name) false) (w.alloc o) = .ok (.pointer none) (w.alloc o)) :
    Calls Tryz.prog 156 #[.pointer (some ⟨cb, 0, none⟩), .string name] w fun e w' => e = .returned (.tuple #[accV noA, .bool false]) ∧ Below w.heap.size w w' := by
  go_enter Tryz.func156, Tryz.ntmps156
  go_wp2
  refine bodyPost_ret (v := .tuple #[accV noA, .bool false]) (by simp [results, Tryz.results156, go_sem, accV, noA]) rfl ⟨rfl, ?_⟩
  first | exact (Below.refl _ _).alloc (Nat.le_refl _) _ | exact (((((Below.refl _ _).alloc (Nat.le_refl _) _).setCell (Nat.le_refl _) _).setCell (Nat.le_refl _) _).setCell (Nat.le_refl _) _).setCell (Nat.le_refl _) _

set_option maxRecDepth 100000 in
theorem Find_some (cb mb nb : Nat) (a : Acct) (w : World) (hlt : cb < w.heap.size) (hln : nb < w.heap.size) (hc0 : w.cell? ⟨cb, 0, none⟩ = some (.map (some mb)))
    (hlk : ∀ o, Sem.run Tryz.prog (Instr.lookup 145 (.map (some mb)) (.string a.name) false) (w.alloc o) = .ok (.pointer (some ⟨nb, 0, none⟩)) (w.alloc o))
    (h0 : w.cell? ⟨nb, 0, none⟩ = some (.string a.name)) (h1 : w.cell? ⟨nb, 1, none⟩ = some (.int .i64 a.typ)) (h2 : w.cell? ⟨nb, 2, none⟩ = some (.int .i64 a.opened)) (h3 : w.cell? ⟨nb, 3, none⟩ = some (.bool a.closed)) :
    Calls Tryz.prog 156 #[.pointer (some ⟨cb, 0, none⟩), .string a.name] w fun e w' => e = .returned (.tuple #[accV a, .bool true]) ∧ Below w.heap.size w w' := by
  go_enter Tryz.func156, Tryz.ntmps156
  go_wp2
  refine bodyPost_ret (v := .tuple #[accV a, .bool true]) (by simp [results, Tryz.results156, go_sem, accV]) rfl ⟨rfl, ?_⟩
  first | exact (Below.refl _ _).alloc (Nat.le_refl _) _ | exact (((((Below.refl _ _).alloc (Nat.le_refl _) _).setCell (Nat.le_refl _) _).setCell (Nat.le_refl _) _).setCell (Nat.le_refl _) _).setCell (Nat.le_refl _) _

theorem Find_any {w : World} {F : Nat → Prop} {cb : Nat} {L : List Acct} (h : ChartAt w F cb L) (name : ByteArray) :
    Calls Tryz.prog 156 #[.pointer (some ⟨cb, 0, none⟩), .string name] w fun e w' => e = .returned (.tuple #[accV ((findA L name).getD noA), .bool (findA L name).isSome]) ∧ Below w.heap.size w w' := by
  obtain ⟨mb, rv, nb, kv, ps, h⟩ := h
  have hlk := fun o => (h.keep (w' := w.alloc o) fun k _ hk => Below.heap_alloc w o k hk).lookup name
  have hc0 : w.cell? ⟨cb, 0, none⟩ = some (.map (some mb)) := by rw [cell_of_blk h.hC]; rfl
  cases hf : findA L name with
  | none =>
    rw [hf] at hlk
    exact Find_none cb mb name w (heap_lt h.hC) hc0 hlk
  | some a =>
    rw [hf] at hlk
    obtain ⟨ha, rfl⟩ := findA_some hf
    have hn := h.hN a ha
    exact Find_some cb mb (nb a.name) a w (heap_lt h.hC) (heap_lt hn) hc0 hlk (by rw [cell_of_blk hn]; rfl) (by rw [cell_of_blk hn]; rfl) (by rw [cell_of_blk hn]; rfl) (by rw [cell_of_blk hn]; rfl)
end Go.Proofs.YtplocldnklccfaaGreatDoor
namespace Go.Proofs.YtplocldnklccfaaGreatDoor
open Go.RowKit
set_option linter.unusedVariables false
set_option linter.unusedSimpArgs false

theorem new_chart (w : World) : ChartAt ((w.alloc (.map #[] 0)).alloc (.cells #[.map (some w.heap.size), .slice none 0 0] 148)) (fun k => w.heap.size ≤ k ∧ k < w.heap.size + 2) (w.heap.size + 1) [] := by
  refine ⟨w.heap.size, .slice none 0 0, fun _ => 0, fun _ => .slice none 0 0, [], ?_⟩
  refine { hC := ?_, hM := ?_, hps := fun _ => rfl, hlen := rfl, le := by decide, hN := ?_, hK := ?_, hR := World.ownsRow_nil _ _ _ _, fC := by omega, fM := by omega, fN := ?_, fK := ?_, fR := ?_, inj := ?_, dK := ?_, dR := ?_ }
  · have := heap_alloc_new (w.alloc (.map #[] 0)) (.cells #[.map (some w.heap.size), .slice none 0 0] 148)
    simpa using this
  · refine ⟨#[], 0, ?_, rfl⟩
    rw [Below.heap_alloc _ _ _ (by simp), heap_alloc_new]
  all_goals simp [Value.ownBlock]

theorem New_any (w : World) :
    Calls Tryz.prog 73 #[] w fun e w' => e = .returned (ptrV (w.heap.size + 1)) ∧ ChartAt w' (fun k => w.heap.size ≤ k ∧ k < w.heap.size + 2) (w.heap.size + 1) [] ∧ w'.heap.size = w.heap.size + 2 ∧ Below w.heap.size w w' := by
  have hmm := @run_makeMap Tryz.prog
  have HN := Lib.hid (new_chart w)
  go_enter Tryz.func73, Tryz.ntmps73
  go_wp2
  go_ret
  exact ⟨rfl, HN.out, by simp, ((Below.refl _ _).alloc (Nat.le_refl _) _).alloc (by simp) _⟩

/-- The names of those in a list. -/
def namesV (l : List Acct) : List Value := l.map fun a => .string a.name

theorem namesV_take (l : List Acct) (k : Nat) (h : k < l.length) : namesV (l.take (k + 1)) = namesV (l.take k) ++ [.string l[k].name] := by
  rw [List.take_succ_eq_append_getElem h]
  simp only [namesV, List.map_append, List.map_cons, List.map_nil]

structure KidsInv (w0 : World) (l : List Acct) (v i : Value) (wr : World) (k : Nat) : Prop where
  le : k ≤ l.length
  at_ : i = .int .i64 (k : Int)
  own : wr.ownsRow w0.heap.size 9 1 v k (namesV (l.take k))
  bel : Below w0.heap.size w0 wr
theorem info_str : (Tryz.prog.info? 9).map (fun i => (i.zero, i.size, i.bytes)) = some (some (.string ByteArray.empty), 1, 16) := by kernel_rfl

set_option maxRecDepth 100000 in
set_option maxHeartbeats 1000000 in
/-- The walk of Kids' second half: the loop over a list of nodes. -/
theorem Kids_list (cb mb pb : Nat) (name : ByteArray) (A : Option Addr) (c : Nat) (l : List Acct) (nb : ByteArray → Nat) (w : World) (hl : l.length ≤ 100)
    (hr : ∃ rv, w.cell? ⟨cb, 1, none⟩ = some (.slice rv.1 rv.2.1 rv.2.2) ∧ w.cell? ⟨cb, 0, none⟩ = some (.map (some mb)) ∧ ((name.toList.isEmpty = true ∧ rv = (A, l.length, c)) ∨ (name.toList.isEmpty = false ∧
      Sem.run Tryz.prog (Instr.lookup 145 (.map (some mb)) (.string name) false) w = .ok (.pointer (some ⟨pb, 0, none⟩)) w ∧ w.cell? ⟨pb, 4, none⟩ = some (.slice A l.length c))))
    (hA : ∀ j (hj : j < l.length), ∃ ad, A = some ad ∧ ad.block < w.heap.size ∧ w.cell? (ad.add j) = some (ptrV (nb l[j].name)))
    (hN : ∀ j (hj : j < l.length), nb l[j].name < w.heap.size ∧ w.cell? ⟨nb l[j].name, 0, none⟩ = some (.string l[j].name)) :
    Calls Tryz.prog 158 #[.pointer (some ⟨cb, 0, none⟩), .string name] w fun e w' => ∃ v, e = .returned v ∧ w'.ownsRow w.heap.size 9 1 v l.length (namesV l) ∧ Below w.heap.size w w' := by
  obtain ⟨i0, hi, hz0, hz1, hz2⟩ := info_parts info_str
  have HA := Lib.hid hA
  have HN := Lib.hid hN
  clear hA hN
  obtain ⟨⟨r1, r2, r3⟩, hc1, hc0, hsel⟩ := hr
  rcases hsel with ⟨hne, hrv⟩ | ⟨hne, hlk, hc4⟩
  · obtain ⟨rfl, rfl, rfl⟩ : r1 = A ∧ r2 = l.length ∧ r3 = c := by simpa using hrv
    simp only at hc1
    clear hrv
    go_enter Tryz.func158, Tryz.ntmps158
    go_wp2
    go_loopw [7, 30] (fun v i wr => ∃ k, KidsInv w l v i wr k) (fun _ i _ => l.length - (intOf i).toNat)
    case atStart => exact ⟨0, Nat.zero_le _, rfl, World.ownsRow_nil _ _ _ _, Below.refl _ _⟩
    case round =>
      obtain ⟨k, hk, rfl, hown, hbel⟩ := hrel
      by_cases hlt : k < l.length
      · obtain ⟨ad, rfl, hab, hcell⟩ := HA.out k hlt
        obtain ⟨hnb, hname⟩ := HN.out k hlt
        obtain ⟨a, ha⟩ : ∃ a, a = l[k] := ⟨_, rfl⟩
        rw [← ha] at hcell hnb hname
        unfold ptrV at hcell
        have hcell' := ((hbel.cell (p := ad.add k) (by rw [show (ad.add k).block = ad.block from by unfold Addr.add; split <;> rfl]; exact hab)).trans hcell)
        have hname' := (hbel.cell (p := ⟨nb a.name, 0, none⟩) hnb).trans hname
        have HO := Lib.hid hown
        have HAl := Lib.hid ha
        clear ha hown hcell hname
        go_wp2_with (at_builtin; refine wpList_append_own _ rfl _ _ 50 rfl w.heap.size 9 i0 (.string ByteArray.empty) 1 16 Tryz.underlying50 hi hz0 hz1 hz2 rfl (by decide) _ _ _ rfl (HO.out.alloc _) ⟨wr.heap.size, 0, none⟩ 1 1 [.string a.name] rfl rfl ?c1 ?c2 ?c3 ?c4 ?c5 ?_)
        case c1 => exact cell_one_new _ _ _
        case c2 => simp [Value.oneCell']
        case c3 => unfold maxLen; omega
        case c4 => omega
        case c5 => have := hbel.size; simp; omega
        intro v' w1 hown' hgrow _
        have hb1 : Below w.heap.size w w1 := (hbel.alloc hbel.size _).grown hgrow (by have := hbel.size; simp; omega) fun k' hk' => (HO.out.lt k' hk').1
        have HO1 := Lib.hid hown'
        clear hown' hgrow
        go_wp2
        go_roundw
        case rel => exact ⟨k + 1, by omega, by go_num, by
          have := HO1.out
          rw [namesV_take l k hlt, ← HAl.out]
          exact this, hb1⟩
        case measure => simp [intOf]; omega
      · go_wp2
        go_ret
        obtain rfl : k = l.length := by omega
        exact ⟨_, rfl, by simpa using hown, hbel⟩
  · simp only at hc1
    go_enter Tryz.func158, Tryz.ntmps158
    go_wp2
    go_loopw [7, 30] (fun v i wr => ∃ k, KidsInv w l v i wr k) (fun _ i _ => l.length - (intOf i).toNat)
    case atStart => exact ⟨0, Nat.zero_le _, rfl, World.ownsRow_nil _ _ _ _, Below.refl _ _⟩
    case round =>
      obtain ⟨k, hk, rfl, hown, hbel⟩ := hrel
      by_cases hlt : k < l.length
      · obtain ⟨ad, rfl, hab, hcell⟩ := HA.out k hlt
        obtain ⟨hnb, hname⟩ := HN.out k hlt
        obtain ⟨a, ha⟩ : ∃ a, a = l[k] := ⟨_, rfl⟩
        rw [← ha] at hcell hnb hname
        unfold ptrV at hcell
        have hcell' := ((hbel.cell (p := ad.add k) (by rw [show (ad.add k).block = ad.block from by unfold Addr.add; split <;> rfl]; exact hab)).trans hcell)
        have hname' := (hbel.cell (p := ⟨nb a.name, 0, none⟩) hnb).trans hname
        have HO := Lib.hid hown
        have HAl := Lib.hid ha
        clear ha hown hcell hname
        go_wp2_with (at_builtin; refine wpList_append_own _ rfl _ _ 50 rfl w.heap.size 9 i0 (.string ByteArray.empty) 1 16 Tryz.underlying50 hi hz0 hz1 hz2 rfl (by decide) _ _ _ rfl (HO.out.alloc _) ⟨wr.heap.size, 0, none⟩ 1 1 [.string a.name] rfl rfl ?c1 ?c2 ?c3 ?c4 ?c5 ?_)
        case c1 => exact cell_one_new _ _ _
        case c2 => simp [Value.oneCell']
        case c3 => unfold maxLen; omega
        case c4 => omega
        case c5 => have := hbel.size; simp; omega
        intro v' w1 hown' hgrow _
        have hb1 : Below w.heap.size w w1 := (hbel.alloc hbel.size _).grown hgrow (by have := hbel.size; simp; omega) fun k' hk' => (HO.out.lt k' hk').1
        have HO1 := Lib.hid hown'
        clear hown' hgrow
        go_wp2
        go_roundw
        case rel => exact ⟨k + 1, by omega, by go_num, by
          have := HO1.out
          rw [namesV_take l k hlt, ← HAl.out]
          exact this, hb1⟩
        case measure => simp [intOf]; omega
      · go_wp2
        go_ret
        obtain rfl : k = l.length := by omega
        exact ⟨_, rfl, by simpa using hown, hbel⟩

set_option maxRecDepth 100000 in
theorem Kids_nil (cb mb : Nat) (name : ByteArray) (rv : Option Addr × Nat × Nat) (w : World) (hc1 : w.cell? ⟨cb, 1, none⟩ = some (.slice rv.1 rv.2.1 rv.2.2)) (hc0 : w.cell? ⟨cb, 0, none⟩ = some (.map (some mb)))
    (hne : name.toList.isEmpty = false) (hlk : Sem.run Tryz.prog (Instr.lookup 145 (.map (some mb)) (.string name) false) w = .ok (.pointer none) w) :
    Calls Tryz.prog 158 #[.pointer (some ⟨cb, 0, none⟩), .string name] w fun e w' => e = .returned (.slice none 0 0) ∧ w = w' := by
  go_enter Tryz.func158, Tryz.ntmps158
  go_wp2
  go_ret
  exact ⟨rfl, rfl⟩

/-- Whom Kids tells. -/
def kidsL (L : List Acct) (name : ByteArray) : List Acct :=
  if name.toList.isEmpty then rootsA L else match findA L name with
    | none => []
    | some a => kidsA L a.name

theorem own_slice' {w : World} {B e n : Nat} {v : Value} {xs : List Value} (h : w.ownsRow B e 1 v n xs) : ∃ A c, v = .slice A n c ∧ ∀ j u, xs[j]? = some u → ∃ ad, A = some ad ∧ ad.block < w.heap.size ∧ w.cell? (ad.add j) = some u := by
  rcases h.2 with ⟨rfl, rfl⟩ | ⟨g, cap, cur, rfl, hb, hg, r⟩
  · have hx : xs = [] := by simpa using h.1
    subst hx
    exact ⟨none, 0, rfl, fun j u hu => by simp at hu⟩
  · exact ⟨_, cap, rfl, fun j u hu => ⟨_, rfl, heap_lt hg, h.cells (g := g) rfl j u hu⟩⟩

theorem Kids_any {w : World} {F : Nat → Prop} {cb : Nat} {L : List Acct} (h : ChartAt w F cb L) (name : ByteArray) :
    Calls Tryz.prog 158 #[.pointer (some ⟨cb, 0, none⟩), .string name] w fun e w' => ∃ v, e = .returned v ∧ w'.ownsRow w.heap.size 9 1 v (kidsL L name).length (namesV (kidsL L name)) ∧ Below w.heap.size w w' := by
  obtain ⟨mb, rv, nb, kv, ps, h⟩ := h
  have hlk := h.lookup name
  have hc0 : w.cell? ⟨cb, 0, none⟩ = some (.map (some mb)) := by rw [cell_of_blk h.hC]; rfl
  have hc1 : w.cell? ⟨cb, 1, none⟩ = some rv := by rw [cell_of_blk h.hC]; rfl
  obtain ⟨Ar, cr, rfl, hrow⟩ := own_slice' h.hR
  have hsub : ∀ (l : List Acct), (∀ b ∈ l, b ∈ L) → ∀ j (hj : j < l.length), nb l[j].name < w.heap.size ∧ w.cell? ⟨nb l[j].name, 0, none⟩ = some (.string l[j].name) := fun l hl j hj => by
    have hm := h.hN _ (hl _ (List.getElem_mem hj))
    exact ⟨heap_lt hm, by rw [cell_of_blk hm]; rfl⟩
  have hle := h.le
  unfold kidsL
  by_cases he : name.toList.isEmpty = true
  · rw [if_pos he]
    refine Kids_list cb mb 0 name Ar cr (rootsA L) nb w ?_ ⟨(Ar, (rootsA L).length, cr), hc1, hc0, .inl ⟨he, rfl⟩⟩ ?_ (hsub _ fun b hb => (List.mem_filter.1 hb).1)
    · have := List.length_filter_le (fun a : Acct => decide (parentF a.name = none)) L
      unfold rootsA; omega
    · intro j hj
      exact hrow j _ (by simp [hj])
  · have he' : name.toList.isEmpty = false := by simpa using he
    rw [if_neg he]
    cases hf : findA L name with
    | none =>
      rw [hf] at hlk
      exact (Kids_nil cb mb name (Ar, _, cr) w hc1 hc0 he' hlk).mono fun e w' ⟨h1, h2⟩ => ⟨_, h1, by subst h2; exact World.ownsRow_nil _ _ _ _, by subst h2; exact Below.refl _ _⟩
    | some a =>
      rw [hf] at hlk
      obtain ⟨ha, rfl⟩ := findA_some hf
      obtain ⟨Ak, ck, hkv, hrk⟩ := own_slice' (h.hK a ha)
      refine Kids_list cb mb (nb a.name) a.name Ak ck (kidsA L a.name) nb w ?_ ⟨(Ar, _, cr), hc1, hc0, .inr ⟨he', hlk, ?_⟩⟩ ?_ (hsub _ fun b hb => (List.mem_filter.1 hb).1)
      · have := List.length_filter_le (fun b : Acct => decide (parentF b.name = some a.name)) L
        unfold kidsA; omega
      · rw [cell_of_blk (h.hN a ha), ← hkv]; rfl
      · intro j hj
        exact hrk j _ (by simp [hj])
end Go.Proofs.YtplocldnklccfaaGreatDoor
namespace Go.Proofs.YtplocldnklccfaaGreatDoor
open Go.RowKit
set_option linter.unusedVariables false
set_option linter.unusedSimpArgs false

def nodeCs (a : Acct) (v : Value) : Array Value := #[.string a.name, .int .i64 a.typ, .int .i64 a.opened, .bool a.closed, v]
def accCs (a : Acct) : Array Value := #[.string a.name, .int .i64 a.typ, .int .i64 a.opened, .bool a.closed]

structure AddEnd (ns : List ByteArray) (ps : List Value) (t : ByteArray) (p : Value) (W2 : World) (v : Value) (slot : Addr) (e : Ending) (w' : World) : Prop where
  ret : e = .returned (.tuple #[])
  ex : ∃ W3 w4 v', Below W2.heap.size W2 W3 ∧ PutPost ns ps t p W3 v (.returned v') w4 ∧ w' = w4.setCell slot v'

theorem PutPost.drew {ns : List ByteArray} {ps : List Value} {t : ByteArray} {p : Value} {W : World} {v : Value} {e : Ending} {w' : World} (h : PutPost ns ps t p W.drew v e w') : PutPost ns ps t p W v e w' := by
  obtain ⟨i, v', h1, h2, h3, h4, h5, h6, h7⟩ := h
  exact ⟨i, v', h1, h2, h3, h4, h5, ⟨h6.os, h6.tape, h6.output, h6.size, h6.block⟩, h7⟩

theorem keep_cell {w w' : World} {a : Addr} {v : Value} (h : w.cell? a = some v) (hb : w'.heap[a.block]? = w.heap[a.block]?) : w'.cell? a = some v := (World.cell?_of_block hb).trans h
theorem keep_frozen {w w' : World} {a : Addr} {v : Bool} (h : w.frozen? a = v) (hb : w'.heap[a.block]? = w.heap[a.block]?) : w'.frozen? a = v := (World.frozen?_of_block hb).trans h

set_option maxRecDepth 100000 in
set_option maxHeartbeats 1000000 in
theorem add_root (cb mb : Nat) (rv : Value) (a : Acct) (ns : List ByteArray) (ps : List Value) (w W2 : World) (hcl : cb < w.heap.size) (hsz : a.name.size ≤ 140737488355328)
    (hmu : Sem.run Tryz.prog (Instr.mapUpdate 145 (.map (some mb)) (.string a.name) (.pointer (some ⟨w.heap.size + 1, 0, none⟩))) ((w.alloc (.cells #[.string a.name, .int .i64 a.typ, .int .i64 a.opened, .bool a.closed] 159)).alloc (.cells #[.string a.name, .int .i64 a.typ, .int .i64 a.opened, .bool a.closed, .slice none 0 0] 236)).drew = .ok () W2)
    (hc0 : w.cell? ⟨cb, 0, none⟩ = some (.map (some mb))) (hcl2 : cb < W2.heap.size) (hal2 : w.heap.size < W2.heap.size)
    (hA : W2.cell? ⟨w.heap.size, 0, none⟩ = some (.string a.name)) (hc1 : W2.cell? ⟨cb, 1, none⟩ = some rv) (hf1 : W2.frozen? ⟨cb, 1, none⟩ = false) (hcr : rv.ownBlock ≠ some cb) (hr : ∃ A n c, rv = .slice A n c)
    (hpar : parentF a.name = none)
    (hput : ∀ W3, Below W2.heap.size W2 W3 → Calls Tryz.prog 247 #[rv, .pointer (some ⟨w.heap.size + 1, 0, none⟩)] W3 (PutPost ns ps a.name (.pointer (some ⟨w.heap.size + 1, 0, none⟩)) W3 rv)) :
    Calls Tryz.prog 210 #[.pointer (some ⟨cb, 0, none⟩), accV a] w (AddEnd ns ps a.name (.pointer (some ⟨w.heap.size + 1, 0, none⟩)) W2 rv ⟨cb, 1, none⟩) := by
  have hp := fun W => Parent_any a.name W hsz
  rw [hpar] at hp
  obtain ⟨rA, rn, rc, rfl⟩ := hr
  unfold accV
  go_enter Tryz.func210, Tryz.ntmps210
  go_wp2_with fail
  go_region
  clear hmu hc0
  go_wp2_with (go_at_call 10; refine (hp _).mono ?_; rintro e W3 ⟨rfl, hbel⟩; have hc1' := (hbel.cell (p := ⟨cb, 1, none⟩) hcl2).trans hc1; have hf1' := (hbel.frozen (p := ⟨cb, 1, none⟩) hcl2).trans hf1; have hcl3 := Nat.lt_of_lt_of_le hcl2 hbel.size; have hput' := hput W3 hbel; have HB := Lib.hid hbel; clear hbel hput hp hA hc1 hf1)
  refine hput'.mono ?_
  rintro e w4 hpp
  obtain ⟨i, v', h1, h2, h3, rfl, h5, h6, h7⟩ := hpp
  have hblk := h6.block cb hcl3 (fun e => hcr e.symm)
  have hc4 := keep_cell hc1' hblk
  have hf4 := keep_frozen hf1' hblk
  obtain ⟨vA, vc, rfl, _⟩ := own_slice2 h5
  have HPP : Hid (PutPost ns ps a.name (.pointer (some ⟨w.heap.size + 1, 0, none⟩)) W3 (.slice rA rn rc) (.returned (.slice vA (ns.length + 1) vc)) w4) := ⟨i, _, h1, h2, h3, rfl, h5, h6, h7⟩
  clear h1 h2 h3 h5 h6 h7 hblk hput' hc1' hf1'
  go_wp2_with fail
  go_end0
  exact ⟨rfl, W3, w4, _, HB.out, HPP.out, rfl⟩

set_option maxRecDepth 100000 in
set_option maxHeartbeats 4000000 in
theorem add_kid (cb mb pb : Nat) (kv : Value) (u : ByteArray) (a : Acct) (ns : List ByteArray) (ps : List Value) (w W2 : World) (hcl : cb < w.heap.size) (hsz : a.name.size ≤ 140737488355328)
    (hmu : Sem.run Tryz.prog (Instr.mapUpdate 145 (.map (some mb)) (.string a.name) (.pointer (some ⟨w.heap.size + 1, 0, none⟩))) ((w.alloc (.cells #[.string a.name, .int .i64 a.typ, .int .i64 a.opened, .bool a.closed] 159)).alloc (.cells #[.string a.name, .int .i64 a.typ, .int .i64 a.opened, .bool a.closed, .slice none 0 0] 236)).drew = .ok () W2)
    (hc0 : w.cell? ⟨cb, 0, none⟩ = some (.map (some mb))) (hcl2 : cb < W2.heap.size) (hal2 : w.heap.size < W2.heap.size) (hml2 : mb < W2.heap.size) (hpl2 : pb < W2.heap.size)
    (hA : W2.cell? ⟨w.heap.size, 0, none⟩ = some (.string a.name)) (hc02 : W2.cell? ⟨cb, 0, none⟩ = some (.map (some mb)))
    (hk2 : W2.cell? ⟨pb, 4, none⟩ = some kv) (hf2 : W2.frozen? ⟨pb, 4, none⟩ = false) (hck : kv.ownBlock ≠ some cb) (hmk : kv.ownBlock ≠ some mb) (hpk : kv.ownBlock ≠ some pb) (hr : ∃ A n c, kv = .slice A n c)
    (hpar : parentF a.name = some u)
    (hlk : ∀ W' : World, W'.heap[mb]? = W2.heap[mb]? → Sem.run Tryz.prog (Instr.lookup 145 (.map (some mb)) (.string u) false) W' = .ok (.pointer (some ⟨pb, 0, none⟩)) W')
    (hput : ∀ W3, Below W2.heap.size W2 W3 → Calls Tryz.prog 247 #[kv, .pointer (some ⟨w.heap.size + 1, 0, none⟩)] W3 (PutPost ns ps a.name (.pointer (some ⟨w.heap.size + 1, 0, none⟩)) W3 kv)) :
    Calls Tryz.prog 210 #[.pointer (some ⟨cb, 0, none⟩), accV a] w (AddEnd ns ps a.name (.pointer (some ⟨w.heap.size + 1, 0, none⟩)) W2 kv ⟨pb, 4, none⟩) := by
  have hp := fun W => Parent_any a.name W hsz
  rw [hpar] at hp
  obtain ⟨rA, rn, rc, rfl⟩ := hr
  have HLK := Lib.hid hlk
  have HPUT := Lib.hid hput
  clear hlk hput
  unfold accV
  go_enter Tryz.func210, Tryz.ntmps210
  go_wp2_with fail
  go_region
  clear hmu hc0
  go_wp2_with (go_at_call 10; refine (hp _).mono ?_; rintro e W3 ⟨rfl, hbel⟩; have HB := Lib.hid hbel; clear hbel)
  have hc3 : W3.drew.cell? ⟨cb, 0, none⟩ = some (.map (some mb)) := (HB.out.cell (p := ⟨cb, 0, none⟩) hcl2).trans hc02
  have hk3 : W3.drew.cell? ⟨pb, 4, none⟩ = some (.slice rA rn rc) := (HB.out.cell (p := ⟨pb, 4, none⟩) hpl2).trans hk2
  have hl3 := HLK.out W3.drew (HB.out.block mb hml2)
  have hput3 := HPUT.out W3.drew (HB.out.drew)
  have hcl3 := Nat.lt_of_lt_of_le hcl2 HB.out.size
  have hml3 := Nat.lt_of_lt_of_le hml2 HB.out.size
  have hpl3 := Nat.lt_of_lt_of_le hpl2 HB.out.size
  clear hA hc02 hk2 hp
  go_region_with (go_at_call 247; refine hput3.mono ?_; rintro e w4 ⟨i, v', h1, h2, h3, rfl, h5, h6, h7⟩; obtain ⟨vA, vc, rfl, _⟩ := own_slice2 h5; have hc4 := keep_cell hc3 (h6.block cb hcl3 (fun e => hck e.symm)); have hk4 := keep_cell hk3 (h6.block pb hpl3 (fun e => hpk e.symm)); have hf4 : w4.frozen? ⟨pb, 4, none⟩ = false := keep_frozen (keep_frozen hf2 (HB.out.block pb hpl2)) (h6.block pb hpl3 (fun e => hpk e.symm)); have hl4 := HLK.out w4 ((h6.block mb hml3 (fun e => hmk e.symm)).trans (HB.out.block mb hml2)); have HPP : Hid (PutPost ns ps a.name (.pointer (some ⟨w.heap.size + 1, 0, none⟩)) W3 (.slice rA rn rc) (.returned (.slice vA (ns.length + 1) vc)) w4) := PutPost.drew ⟨i, _, h1, h2, h3, rfl, h5, h6, h7⟩; clear h1 h2 h3 h5 h6 h7)
  all_goals
    go_wp2_with fail
    go_end0
    exact ⟨rfl, W3, w4, _, HB.out, HPP.out, rfl⟩
end Go.Proofs.YtplocldnklccfaaGreatDoor
namespace Go.Proofs.YtplocldnklccfaaGreatDoor
open Go.RowKit
set_option linter.unusedVariables false
set_option linter.unusedSimpArgs false

/-- What a call that changes a chart leaves. -/
structure MutPost (F : Nat → Prop) (cb : Nat) (L : List Acct) (v : Value) (w : World) (e : Ending) (w' : World) : Prop where
  ret : e = .returned v
  ex : ∃ F', ChartAt w' F' cb L ∧ Ch F w w' ∧ (∀ k, F' k → F k ∨ (w.heap.size ≤ k ∧ k < w'.heap.size))

/-- The pointers of a rising list with one more, where put has laid it. -/
theorem put_list (M : List Acct) (a : Acct) (nb : ByteArray → Nat) (b i : Nat) (hi : i ≤ M.length) (hM : ∀ x ∈ M, x.name ≠ a.name)
    (h1 : ∀ j (hj : j < (M.map (·.name)).length), j < i → cmpB (M.map (·.name))[j] a.name < 0) (h2 : ∀ j (hj : j < (M.map (·.name)).length), i ≤ j → 0 ≤ cmpB (M.map (·.name))[j] a.name) :
    ((M.map (·.name)).map fun s => ptrV (nb s)).take i ++ ptrV b :: ((M.map (·.name)).map fun s => ptrV (nb s)).drop i = (insA a M).map fun x => ptrV (if x.name = a.name then b else nb x.name) := by
  have hins := insA_at a M i hi (fun j hj hlt => by have := h1 j (by rw [List.length_map]; exact hj) hlt; rw [List.getElem_map] at this; exact this) (fun j hj hle => by have := h2 j (by rw [List.length_map]; exact hj) hle; rw [List.getElem_map] at this; exact this)
  rw [hins, List.map_append, List.map_cons, if_pos rfl, ← List.map_take, ← List.map_drop, ← List.map_take, ← List.map_drop, List.map_map, List.map_map]
  congr 1
  · apply List.map_congr_left
    intro x hx
    have := hM x (List.mem_of_mem_take hx)
    simp [this]
  · congr 1
    apply List.map_congr_left
    intro x hx
    have := hM x (List.mem_of_mem_drop hx)
    simp [this]

/-- What is known behind add, whichever list it went to: sb the block that holds the list's value, at place ix; M the list. -/
structure AddMem (w w' : World) (mb sb ix : Nat) (v : Value) (M : List Acct) (a : Acct) (nb : ByteArray → Nat) (o : Obj) : Prop where
  ex : ∃ v', w'.ownsRow 0 234 1 v' (insA a M).length ((insA a M).map fun x => ptrV (if x.name = a.name then w.heap.size + 1 else nb x.name)) ∧
    (v'.ownBlock = v.ownBlock ∨ ∃ k, v'.ownBlock = some k ∧ w.heap.size + 2 ≤ k) ∧
    (∀ k, k < w.heap.size → k ≠ mb → k ≠ sb → some k ≠ v.ownBlock → w'.heap[k]? = w.heap[k]?) ∧
    w'.heap[mb]? = some o ∧ w'.heap[w.heap.size + 1]? = some (.cells #[.string a.name, .int .i64 a.typ, .int .i64 a.opened, .bool a.closed, .slice none 0 0] 236 (0, 0)) ∧
    (∀ cs t, w.heap[sb]? = some (.cells cs t (0, 0)) → w'.heap[sb]? = some (.cells (cs.setIfInBounds ix v') t (0, 0))) ∧
    w'.os = w.os ∧ w'.tape = w.tape ∧ w'.output = w.output ∧ w.heap.size + 2 ≤ w'.heap.size

theorem add_mem (w W1 W2 : World) (mb sb ix : Nat) (v : Value) (M : List Acct) (a : Acct) (nb : ByteArray → Nat) (o : Obj) (e : Ending) (w' : World)
    (hW1 : W1 = ((w.alloc (.cells #[.string a.name, .int .i64 a.typ, .int .i64 a.opened, .bool a.closed] 159)).alloc (.cells #[.string a.name, .int .i64 a.typ, .int .i64 a.opened, .bool a.closed, .slice none 0 0] 236)).drew) (hW2 : W2 = W1.putObj mb o)
    (hm : mb < w.heap.size) (hs : sb < w.heap.size) (hms : mb ≠ sb) (hmv : some mb ≠ v.ownBlock) (hsv : some sb ≠ v.ownBlock) (hvl : ∀ k, v.ownBlock = some k → k < w.heap.size) (hM : ∀ x ∈ M, x.name ≠ a.name)
    (h : AddEnd (M.map (·.name)) ((M.map (·.name)).map fun s => .pointer (some ⟨nb s, 0, none⟩)) a.name (.pointer (some ⟨w.heap.size + 1, 0, none⟩)) W2 v ⟨sb, ix, none⟩ e w') :
    e = .returned (.tuple #[]) ∧ AddMem w w' mb sb ix v M a nb o := by
  obtain ⟨hret, W3, w4, v', hb, ⟨i, v'', hi, h1, h2, hv, hown, hg, hat⟩, hw'⟩ := h
  obtain rfl : v' = v'' := by injection hv
  have e2s : W2.heap.size = w.heap.size + 2 := by rw [hW2, hW1]; simp [World.putObj]
  have e1 : ∀ k, k < w.heap.size → W1.heap[k]? = w.heap[k]? := fun k hk => by
    rw [hW1]
    exact (Below.heap_alloc _ _ k (by simp; omega)).trans (Below.heap_alloc _ _ k hk)
  have e2 : ∀ k, k < w.heap.size → k ≠ mb → W2.heap[k]? = w.heap[k]? := fun k hk hkm => by
    rw [hW2, heap_putObj_other _ hkm]
    exact e1 k hk
  have e2m : W2.heap[mb]? = some o := by
    have hmb : mb < W1.heap.size := by rw [hW1]; simp; omega
    rw [hW2]
    simp [World.putObj, Array.getElem?_setIfInBounds, hmb]
  have e2n : W2.heap[w.heap.size + 1]? = some (.cells #[.string a.name, .int .i64 a.typ, .int .i64 a.opened, .bool a.closed, .slice none 0 0] 236 (0, 0)) := by
    rw [hW2, heap_putObj_other _ (by omega), hW1]
    have := heap_alloc_new (w.alloc (.cells #[.string a.name, .int .i64 a.typ, .int .i64 a.opened, .bool a.closed] 159)) (.cells #[.string a.name, .int .i64 a.typ, .int .i64 a.opened, .bool a.closed, .slice none 0 0] 236)
    rw [World.size_alloc] at this
    exact this
  have h3s := hb.size
  have h4 : ∀ k, k < W2.heap.size → some k ≠ v.ownBlock → w4.heap[k]? = W2.heap[k]? := fun k hk hkv => (hg.block k (by omega) hkv).trans (hb.block k hk)
  have h5 : ∀ k, k < W2.heap.size → some k ≠ v.ownBlock → k ≠ sb → w'.heap[k]? = W2.heap[k]? := fun k hk hkv hks => by
    rw [hw', Below.heap_setCell _ _ _ _ hks]
    exact h4 k hk hkv
  have hlt : ∀ k, w.heap.size ≤ k → some k ≠ v.ownBlock := fun k hk e => by have := hvl k e.symm; omega
  have hl : (M.map (·.name)).length = M.length := List.length_map _
  refine ⟨hret, v', ?_, ?_, ?_, ?_, ?_, ?_, ?_, ?_, ?_, ?_⟩
  · have hpl := put_list M a nb (w.heap.size + 1) i (by omega) hM h1 h2
    unfold ptrV at hpl
    rw [hpl] at hown
    rw [length_insA, ← hl]
    refine ownsRow_keep hown fun k hk => ?_
    rw [hw', Below.heap_setCell]
    intro e
    subst e
    rcases hat with h | ⟨j, h, hj⟩
    · exact hsv (hk.symm.trans h).symm.symm
    · rw [h] at hk; injection hk with hk; omega
  · rcases hat with h | ⟨j, h, hj⟩
    · exact .inl h
    · exact .inr ⟨j, h, by omega⟩
  · intro k hk hkm hks hkv
    rw [h5 k (by omega) hkv hks, e2 k hk hkm]
  · rw [h5 mb (by omega) hmv hms, e2m]
  · rw [h5 _ (by omega) (hlt _ (by omega)) (by omega), e2n]
  · intro cs t hcs
    rw [hw']
    refine heap_setCell_same ?_ v'
    rw [h4 sb (by omega) hsv, e2 sb hs hms.symm, hcs]
  · rw [hw']; show w4.os = _; rw [hg.os, hb.os, hW2, hW1]; rfl
  · rw [hw']; show w4.tape = _; rw [hg.tape, hb.tape, hW2, hW1]; rfl
  · rw [hw']; show w4.output = _; rw [hg.output, hb.output, hW2, hW1]; rfl
  · have := hg.size
    rw [hw']; simp only [World.size_setCell]; omega
end Go.Proofs.YtplocldnklccfaaGreatDoor
namespace Go.Proofs.YtplocldnklccfaaGreatDoor
open Go.RowKit
set_option linter.unusedVariables false
set_option linter.unusedSimpArgs false

/-- An account may be laid into a list: nothing of its name is there, its parent is. -/
structure CanAdd (L : List Acct) (a : Acct) : Prop where
  rising : Rising L
  none_ : findA L a.name = none
  room : L.length ≤ 99
  up : ∀ u, parentF a.name = some u → ∃ p ∈ L, p.name = u
  nokid : ∀ b ∈ L, parentF b.name ≠ some a.name
  self : parentF a.name ≠ some a.name
  size : a.name.size ≤ 140737488355328

theorem CR.cb_mb {w : World} {F : Nat → Prop} {cb mb : Nat} {L : List Acct} {rv : Value} {nb : ByteArray → Nat} {kv : ByteArray → Value} {ps : List (ByteArray × Value)}
    (h : CR w F cb L mb rv nb kv ps) : cb ≠ mb := by
  intro e
  obtain ⟨es, c, h1, _⟩ := h.hM
  have := h.hC
  rw [e, h1] at this
  injection this with this
  cases this
theorem CR.nb_mb {w : World} {F : Nat → Prop} {cb mb : Nat} {L : List Acct} {rv : Value} {nb : ByteArray → Nat} {kv : ByteArray → Value} {ps : List (ByteArray × Value)}
    (h : CR w F cb L mb rv nb kv ps) {a : Acct} (ha : a ∈ L) : nb a.name ≠ mb := by
  intro e
  obtain ⟨es, c, h1, _⟩ := h.hM
  have := h.hN a ha
  rw [e, h1] at this
  injection this with this
  cases this
theorem CR.cb_nb {w : World} {F : Nat → Prop} {cb mb : Nat} {L : List Acct} {rv : Value} {nb : ByteArray → Nat} {kv : ByteArray → Value} {ps : List (ByteArray × Value)}
    (h : CR w F cb L mb rv nb kv ps) {a : Acct} (ha : a ∈ L) : cb ≠ nb a.name := by
  intro e
  have h1 := h.hN a ha
  have := h.hC
  rw [e, h1] at this
  injection this with this
  injection this with this
  have := congrArg Array.size this
  simp at this

/-- A row's block is of its element's type. -/
theorem own_ne {w : World} {B e size n b : Nat} {v : Value} {xs : List Value} {t : TypeId} {cs : Array Value} (h : w.ownsRow B e size v n xs) (hb : w.heap[b]? = some (.cells cs t (0, 0))) (ht : t ≠ e) : v.ownBlock ≠ some b := by
  rcases h.2 with ⟨rfl, _⟩ | ⟨g, cap, cur, rfl, _, hg, _⟩
  · simp [Value.ownBlock]
  · intro e1
    simp [Value.ownBlock] at e1
    subst e1
    rw [hg] at hb
    injection hb with hb
    injection hb with h1 h2 h3
    exact ht h2.symm
theorem own_ne_map {w : World} {B e size n b : Nat} {v : Value} {xs : List Value} {ps : List (ByteArray × Value)} (h : w.ownsRow B e size v n xs) (hb : StrMap w b ps) : v.ownBlock ≠ some b := by
  obtain ⟨es, c, hb, _⟩ := hb
  rcases h.2 with ⟨rfl, _⟩ | ⟨g, cap, cur, rfl, _, hg, _⟩
  · simp [Value.ownBlock]
  · intro e1
    simp [Value.ownBlock] at e1
    subst e1
    rw [hg] at hb
    injection hb with hb
    cases hb

theorem kids_insA {L : List Acct} (hr : Rising L) (a : Acct) (n : ByteArray) : kidsA (insA a L) n = if parentF a.name = some n then insA a (kidsA L n) else kidsA L n := by
  unfold kidsA
  rw [filter_insA _ a L hr]
  simp
theorem roots_insA {L : List Acct} (hr : Rising L) (a : Acct) : rootsA (insA a L) = if parentF a.name = none then insA a (rootsA L) else rootsA L := by
  unfold rootsA
  rw [filter_insA _ a L hr]
  simp

/-- Where names are not the new one's, the pointers stay. -/
theorem ptrs_same (l : List Acct) (a : Acct) (nb : ByteArray → Nat) (b : Nat) (h : ∀ x ∈ l, x.name ≠ a.name) :
    (l.map fun x => ptrV (if x.name = a.name then b else nb x.name)) = l.map fun x => ptrV (nb x.name) :=
  List.map_congr_left fun x hx => by rw [if_neg (h x hx)]

theorem CR.add_root {w w' : World} {F : Nat → Prop} {cb mb : Nat} {L : List Acct} {rv : Value} {nb : ByteArray → Nat} {kv : ByteArray → Value} {ps : List (ByteArray × Value)}
    (h : CR w F cb L mb rv nb kv ps) {a : Acct} (ha : CanAdd L a) (hp : parentF a.name = none) {o : Obj} (ho : ∀ x : World, x.heap[mb]? = some o → StrMap x mb (ps ++ [(a.name, ptrV (w.heap.size + 1))]))
    (hm : AddMem w w' mb cb 1 rv (rootsA L) a nb o) : MutPost F cb (insA a L) (.tuple #[]) w (.returned (.tuple #[])) w' := by
  obtain ⟨v', hown, hat, hblk, hmb, hnew, hset, hos, htape, hout, hsz⟩ := hm
  have hne : ∀ b ∈ L, b.name ≠ a.name := find_none ha.none_
  have hK' : ∀ b ∈ L, kidsA (insA a L) b.name = kidsA L b.name := fun b hb => by rw [kids_insA ha.rising, hp]; simp
  have hKa : kidsA (insA a L) a.name = [] := by
    rw [kids_insA ha.rising, hp]
    simp only [reduceCtorEq, if_false]
    unfold kidsA
    rw [List.filter_eq_nil_iff]
    intro b hb
    simpa using ha.nokid b hb
  have nK : ∀ b ∈ L, ∀ k, (kv b.name).ownBlock = some k → w'.heap[k]? = w.heap[k]? := fun b hb k hk => by
    refine hblk k ((h.hK b hb).lt k hk).2 (fun e => own_ne_map (h.hK b hb) h.hM (by rw [hk, e])) (fun e => own_ne (h.hK b hb) h.hC (by decide) (by rw [hk, e])) (fun e => h.dR b hb k hk e.symm)
  have ltK : ∀ b ∈ L, ∀ k, (kv b.name).ownBlock = some k → k < w.heap.size := fun b hb k hk => ((h.hK b hb).lt k hk).2
  have ltR : ∀ k, rv.ownBlock = some k → k < w.heap.size := fun k hk => (h.hR.lt k hk).2
  refine ⟨rfl, fun k => F k ∨ (w.heap.size ≤ k ∧ k < w'.heap.size), ⟨mb, v', fun n => if n = a.name then w.heap.size + 1 else nb n, fun n => if n = a.name then .slice none 0 0 else kv n, ps ++ [(a.name, ptrV (w.heap.size + 1))], ?_⟩, ?_, fun _ h => h⟩
  · refine { hC := hset _ _ h.hC, hM := ho _ hmb, hps := ?_, hlen := by simp [length_insA, h.hlen], le := by rw [length_insA]; have := ha.room; omega, hN := ?_, hK := ?_, hR := ?_, fC := .inl h.fC, fM := .inl h.fM, fN := ?_, fK := ?_, fR := ?_, inj := ?_, dK := ?_, dR := ?_ }
    · intro k
      rw [getP_append, h.hps k, find_insA hne]
      by_cases hk : a.name = k
      · subst hk
        simp [ha.none_, getP]
      · simp only [if_neg hk, getP, if_neg (Ne.symm hk), Option.or_none]
        cases hf : findA L k with
        | none => rfl
        | some b =>
          have := hne b (findA_some hf).1
          simp [this]
    · intro b hb
      rcases mem_insA.1 hb with rfl | hb
      · simpa using hnew
      · rw [if_neg (hne b hb), if_neg (hne b hb)]
        have hn := h.hN b hb
        rw [hblk _ (heap_lt hn) (h.nb_mb hb) (Ne.symm (h.cb_nb hb)) (fun e => own_ne h.hR hn (by decide) e.symm)]
        exact hn
    · intro b hb
      rcases mem_insA.1 hb with rfl | hb
      · rw [if_pos rfl, hKa]
        exact World.ownsRow_nil _ _ _ _
      · rw [if_neg (hne b hb), hK' b hb, ptrs_same (kidsA L b.name) a nb _ fun x hx => hne x (List.mem_filter.1 hx).1]
        exact ownsRow_keep (h.hK b hb) (nK b hb)
    · rw [roots_insA ha.rising, if_pos hp]
      exact hown
    · intro b hb
      rcases mem_insA.1 hb with rfl | hb
      · rw [if_pos rfl]; right; omega
      · rw [if_neg (hne b hb)]; exact .inl (h.fN b hb)
    · intro b hb k hk
      rcases mem_insA.1 hb with rfl | hb
      · simp [Value.ownBlock] at hk
      · rw [if_neg (hne b hb)] at hk; exact .inl (h.fK b hb k hk)
    · intro k hk
      rcases hat with e | ⟨j, e, hj⟩
      · exact .inl (h.fR k (e ▸ hk))
      · right
        have := (hown.lt k hk).2
        rw [e] at hk; injection hk with hk
        omega
    · intro b hb c hc
      replace hb := mem_insA.1 hb
      replace hc := mem_insA.1 hc
      rcases hb with rfl | hb <;> rcases hc with rfl | hc
      · intro _; rfl
      · rw [if_pos rfl, if_neg (hne c hc)]
        intro e; have := heap_lt (h.hN c hc); omega
      · rw [if_pos rfl, if_neg (hne b hb)]
        intro e; have := heap_lt (h.hN b hb); omega
      · rw [if_neg (hne b hb), if_neg (hne c hc)]
        exact h.inj b hb c hc
    · intro b hb c hc hbc k hk
      replace hb := mem_insA.1 hb
      replace hc := mem_insA.1 hc
      rcases hb with rfl | hb <;> rcases hc with rfl | hc
      · exact absurd rfl hbc
      · simp [Value.ownBlock] at hk
      · rw [if_pos rfl]; simp [Value.ownBlock]
      · rw [if_neg (hne b hb)] at hk
        rw [if_neg (hne c hc)]
        exact h.dK b hb c hc hbc k hk
    · intro b hb k hk
      rcases mem_insA.1 hb with rfl | hb
      · simp [Value.ownBlock] at hk
      · rw [if_neg (hne b hb)] at hk
        rcases hat with e | ⟨j, e, hj⟩
        · rw [e]; exact h.dR b hb k hk
        · rw [e]; have := ltK b hb k hk
          intro e; injection e with e; omega
  · refine ⟨hos, htape, hout, by omega, fun k hk hn => hblk k hk (fun e => hn (e ▸ h.fM)) (fun e => hn (e ▸ h.fC)) (fun e => hn (h.fR k e.symm))⟩

theorem CR.add_kid {w w' : World} {F : Nat → Prop} {cb mb : Nat} {L : List Acct} {rv : Value} {nb : ByteArray → Nat} {kv : ByteArray → Value} {ps : List (ByteArray × Value)}
    (h : CR w F cb L mb rv nb kv ps) {a p : Acct} (ha : CanAdd L a) (hpL : p ∈ L) (hp : parentF a.name = some p.name) {o : Obj} (ho : ∀ x : World, x.heap[mb]? = some o → StrMap x mb (ps ++ [(a.name, ptrV (w.heap.size + 1))]))
    (hm : AddMem w w' mb (nb p.name) 4 (kv p.name) (kidsA L p.name) a nb o) : MutPost F cb (insA a L) (.tuple #[]) w (.returned (.tuple #[])) w' := by
  obtain ⟨v', hown, hat, hblk, hmb, hnew, hset, hos, htape, hout, hsz⟩ := hm
  have hne : ∀ b ∈ L, b.name ≠ a.name := find_none ha.none_
  have hpa : p.name ≠ a.name := hne p hpL
  have hK' : ∀ b ∈ L, b.name ≠ p.name → kidsA (insA a L) b.name = kidsA L b.name := fun b hb hbp => by rw [kids_insA ha.rising, hp, if_neg]; intro e; injection e with e; exact hbp e.symm
  have hKp : kidsA (insA a L) p.name = insA a (kidsA L p.name) := by rw [kids_insA ha.rising, if_pos hp]
  have hKa : kidsA (insA a L) a.name = [] := by
    rw [kids_insA ha.rising, if_neg ha.self]
    unfold kidsA
    rw [List.filter_eq_nil_iff]
    intro b hb
    simpa using ha.nokid b hb
  have nK : ∀ b ∈ L, b.name ≠ p.name → ∀ k, (kv b.name).ownBlock = some k → w'.heap[k]? = w.heap[k]? := fun b hb hbp k hk => by
    refine hblk k ((h.hK b hb).lt k hk).2 (fun e => own_ne_map (h.hK b hb) h.hM (by rw [hk, e])) (fun e => own_ne (h.hK b hb) (h.hN p hpL) (by decide) (by rw [hk, e])) (fun e => h.dK b hb p hpL hbp k hk e.symm)
  have ltK : ∀ b ∈ L, ∀ k, (kv b.name).ownBlock = some k → k < w.heap.size := fun b hb k hk => ((h.hK b hb).lt k hk).2
  have ltR : ∀ k, rv.ownBlock = some k → k < w.heap.size := fun k hk => (h.hR.lt k hk).2
  have nR : ∀ k, rv.ownBlock = some k → w'.heap[k]? = w.heap[k]? := fun k hk => by
    refine hblk k (ltR k hk) (fun e => own_ne_map h.hR h.hM (by rw [hk, e])) (fun e => own_ne h.hR (h.hN p hpL) (by decide) (by rw [hk, e])) (fun e => h.dR p hpL k e.symm hk)
  refine ⟨rfl, fun k => F k ∨ (w.heap.size ≤ k ∧ k < w'.heap.size), ⟨mb, rv, fun n => if n = a.name then w.heap.size + 1 else nb n, fun n => if n = a.name then .slice none 0 0 else if n = p.name then v' else kv n, ps ++ [(a.name, ptrV (w.heap.size + 1))], ?_⟩, ?_, fun _ h => h⟩
  · refine { hC := ?_, hM := ho _ hmb, hps := ?_, hlen := by simp [length_insA, h.hlen], le := by rw [length_insA]; have := ha.room; omega, hN := ?_, hK := ?_, hR := ?_, fC := .inl h.fC, fM := .inl h.fM, fN := ?_, fK := ?_, fR := ?_, inj := ?_, dK := ?_, dR := ?_ }
    · rw [hblk cb (heap_lt h.hC) h.cb_mb (h.cb_nb hpL) (fun e => own_ne (h.hK p hpL) h.hC (by decide) e.symm)]
      exact h.hC
    · intro k
      rw [getP_append, h.hps k, find_insA hne]
      by_cases hk : a.name = k
      · subst hk
        simp [ha.none_, getP]
      · simp only [if_neg hk, getP, if_neg (Ne.symm hk), Option.or_none]
        cases hf : findA L k with
        | none => rfl
        | some b =>
          have := hne b (findA_some hf).1
          simp [this]
    · intro b hb
      rcases mem_insA.1 hb with rfl | hb
      · simpa using hnew
      · have hn := h.hN b hb
        rw [if_neg (hne b hb), if_neg (hne b hb)]
        by_cases hbp : b.name = p.name
        · rw [if_pos hbp]
          have hbn : nb b.name = nb p.name := by rw [hbp]
          rw [hbn] at hn ⊢
          exact hset _ _ hn
        · rw [if_neg hbp, hblk _ (heap_lt hn) (h.nb_mb hb) (fun e => hbp (h.inj b hb p hpL e)) (fun e => own_ne (h.hK p hpL) hn (by decide) e.symm)]
          exact hn
    · intro b hb
      rcases mem_insA.1 hb with rfl | hb
      · rw [if_pos rfl, hKa]
        exact World.ownsRow_nil _ _ _ _
      · rw [if_neg (hne b hb)]
        by_cases hbp : b.name = p.name
        · rw [if_pos hbp, hbp, hKp]
          exact hown
        · rw [if_neg hbp, hK' b hb hbp, ptrs_same (kidsA L b.name) a nb _ fun x hx => hne x (List.mem_filter.1 hx).1]
          exact ownsRow_keep (h.hK b hb) (nK b hb hbp)
    · rw [roots_insA ha.rising, hp]
      simp only [reduceCtorEq, if_false]
      rw [ptrs_same (rootsA L) a nb _ fun x hx => hne x (List.mem_filter.1 hx).1]
      exact ownsRow_keep h.hR nR
    · intro b hb
      rcases mem_insA.1 hb with rfl | hb
      · rw [if_pos rfl]; right; omega
      · rw [if_neg (hne b hb)]; exact .inl (h.fN b hb)
    · intro b hb k hk
      rcases mem_insA.1 hb with rfl | hb
      · simp [Value.ownBlock] at hk
      · rw [if_neg (hne b hb)] at hk
        by_cases hbp : b.name = p.name
        · rw [if_pos hbp] at hk
          rcases hat with e | ⟨j, e, hj⟩
          · exact .inl (h.fK p hpL k (e ▸ hk))
          · right
            have := (hown.lt k hk).2
            rw [e] at hk; injection hk with hk
            omega
        · rw [if_neg hbp] at hk; exact .inl (h.fK b hb k hk)
    · intro k hk; exact .inl (h.fR k hk)
    · intro b hb c hc
      replace hb := mem_insA.1 hb
      replace hc := mem_insA.1 hc
      rcases hb with rfl | hb <;> rcases hc with rfl | hc
      · intro _; rfl
      · rw [if_pos rfl, if_neg (hne c hc)]
        intro e; have := heap_lt (h.hN c hc); omega
      · rw [if_pos rfl, if_neg (hne b hb)]
        intro e; have := heap_lt (h.hN b hb); omega
      · rw [if_neg (hne b hb), if_neg (hne c hc)]
        exact h.inj b hb c hc
    · intro b hb c hc hbc k hk
      replace hb := mem_insA.1 hb
      replace hc := mem_insA.1 hc
      rcases hb with rfl | hb <;> rcases hc with rfl | hc
      · exact absurd rfl hbc
      · simp [Value.ownBlock] at hk
      · rw [if_pos rfl]; simp [Value.ownBlock]
      · rw [if_neg (hne b hb)] at hk
        rw [if_neg (hne c hc)]
        by_cases hbp : b.name = p.name
        · have hcp : c.name ≠ p.name := fun e => hbc (by rw [hbp, e])
          rw [if_pos hbp] at hk
          rw [if_neg hcp]
          rcases hat with e | ⟨j, e, hj⟩
          · exact h.dK p hpL c hc (Ne.symm hcp) k (e ▸ hk)
          · rw [e] at hk; injection hk with hk
            intro e1
            have := ltK c hc k e1
            omega
        · rw [if_neg hbp] at hk
          by_cases hcp : c.name = p.name
          · rw [if_pos hcp]
            rcases hat with e | ⟨j, e, hj⟩
            · rw [e]; exact h.dK b hb p hpL hbp k hk
            · rw [e]
              have := ltK b hb k hk
              intro e1; injection e1 with e1; omega
          · rw [if_neg hcp]; exact h.dK b hb c hc hbc k hk
    · intro b hb k hk
      rcases mem_insA.1 hb with rfl | hb
      · simp [Value.ownBlock] at hk
      · rw [if_neg (hne b hb)] at hk
        by_cases hbp : b.name = p.name
        · rw [if_pos hbp] at hk
          rcases hat with e | ⟨j, e, hj⟩
          · exact h.dR p hpL k (e ▸ hk)
          · rw [e] at hk; injection hk with hk
            intro e1
            have := ltR k e1
            omega
        · rw [if_neg hbp] at hk; exact h.dR b hb k hk
  · refine ⟨hos, htape, hout, by omega, fun k hk hn => hblk k hk (fun e => hn (e ▸ h.fM)) (fun e => hn (e ▸ h.fN p hpL)) (fun e => hn (h.fK p hpL k e.symm))⟩
end Go.Proofs.YtplocldnklccfaaGreatDoor
namespace Go.Proofs.YtplocldnklccfaaGreatDoor
open Go.RowKit
set_option linter.unusedVariables false
set_option linter.unusedSimpArgs false

theorem rising_mono {M : List Acct} (hr : Rising M) (t : ByteArray) : ∀ i j (hi : i < (M.map (·.name)).length) (hj : j < (M.map (·.name)).length), i ≤ j → cmpB (M.map (·.name))[j] t < 0 → cmpB (M.map (·.name))[i] t < 0 := by
  intro i j hi hj hij h
  rw [List.getElem_map] at h ⊢
  rcases Nat.lt_or_eq_of_le hij with hlt | rfl
  · exact cmp_trans (rising_get hr (by simpa using hj) hlt) h
  · exact h

/-- The world behind the two new blocks. -/
def addW1 (w : World) (a : Acct) : World :=
  ((w.alloc (.cells #[.string a.name, .int .i64 a.typ, .int .i64 a.opened, .bool a.closed] 159)).alloc (.cells #[.string a.name, .int .i64 a.typ, .int .i64 a.opened, .bool a.closed, .slice none 0 0] 236)).drew

theorem addW1_old (w : World) (a : Acct) {k : Nat} (hk : k < w.heap.size) : (addW1 w a).heap[k]? = w.heap[k]? :=
  (Below.heap_alloc _ _ k (by simp; omega)).trans (Below.heap_alloc _ _ k hk)
theorem addW1_size (w : World) (a : Acct) : (addW1 w a).heap.size = w.heap.size + 2 := by simp [addW1, World.drew]
theorem addW1_new (w : World) (a : Acct) : (addW1 w a).heap[w.heap.size + 1]? = some (.cells #[.string a.name, .int .i64 a.typ, .int .i64 a.opened, .bool a.closed, .slice none 0 0] 236 (0, 0)) := by
  have := heap_alloc_new (w.alloc (.cells #[.string a.name, .int .i64 a.typ, .int .i64 a.opened, .bool a.closed] 159)) (.cells #[.string a.name, .int .i64 a.typ, .int .i64 a.opened, .bool a.closed, .slice none 0 0] 236)
  rw [World.size_alloc] at this
  exact this
theorem addW1_acc (w : World) (a : Acct) : (addW1 w a).heap[w.heap.size]? = some (.cells #[.string a.name, .int .i64 a.typ, .int .i64 a.opened, .bool a.closed] 159 (0, 0)) := by
  exact (Below.heap_alloc _ _ _ (by simp)).trans (heap_alloc_new _ _)

/-- What lay below the old heap and is not the map's block lies so behind all. -/
theorem addW3_old {w W2 W3 : World} {mb : Nat} {a : Acct} {o : Obj} (hW2 : W2 = (addW1 w a).putObj mb o) (hb : Below W2.heap.size W2 W3) {k : Nat} (hk : k < w.heap.size) (hkm : k ≠ mb) : W3.heap[k]? = w.heap[k]? := by
  have hs : W2.heap.size = w.heap.size + 2 := by rw [hW2]; simp [World.putObj, addW1_size]
  rw [hb.block k (by omega), hW2, heap_putObj_other _ hkm, addW1_old w a hk]

/-- put's premises, behind the map's update and whatever lays new blocks alone. -/
theorem put_ready {w W2 W3 : World} {mb : Nat} {a : Acct} {v : Value} {M : List Acct} {nb : ByteArray → Nat} (o : Obj) (hW2 : W2 = (addW1 w a).putObj mb o) (hb : Below W2.heap.size W2 W3)
    (hlen : M.length ≤ 99) (hr : Rising M) (hml : mb < w.heap.size)
    (hown : w.ownsRow 0 234 1 v M.length (M.map fun b => ptrV (nb b.name))) (hvm : v.ownBlock ≠ some mb)
    (hN : ∀ b ∈ M, nb b.name ≠ mb ∧ nb b.name < w.heap.size ∧ w.cell? ⟨nb b.name, 0, none⟩ = some (.string b.name)) :
    Calls Tryz.prog 247 #[v, .pointer (some ⟨w.heap.size + 1, 0, none⟩)] W3 (PutPost (M.map (·.name)) ((M.map (·.name)).map fun s => .pointer (some ⟨nb s, 0, none⟩)) a.name (.pointer (some ⟨w.heap.size + 1, 0, none⟩)) W3 v) := by
  have hs : W2.heap.size = w.heap.size + 2 := by rw [hW2]; simp [World.putObj, addW1_size]
  refine put_any (M.map (·.name)) nb v (w.heap.size + 1) a.name W3 (by simpa using hlen) ?_ ?_ ?_ (rising_mono hr a.name)
  · have : ((M.map (·.name)).map fun s => Value.pointer (some ⟨nb s, 0, none⟩)) = M.map fun b => ptrV (nb b.name) := by rw [List.map_map]; rfl
    rw [this, List.length_map]
    exact ownsRow_keep hown fun k hk => addW3_old hW2 hb (hown.lt k hk).2 fun e => hvm (by rw [hk, e])
  · intro j hj
    rw [List.getElem_map]
    obtain ⟨h1, h2, h3⟩ := hN _ (List.getElem_mem (by simpa using hj))
    exact keep_cell h3 (addW3_old hW2 hb h2 h1)
  · have : W3.heap[w.heap.size + 1]? = _ := (hb.block _ (by omega)).trans ((hW2 ▸ heap_putObj_other o (by omega)).trans (addW1_new w a))
    rw [cell_of_blk this]
    rfl

theorem add_any {w : World} {F : Nat → Prop} {cb : Nat} {L : List Acct} (h : ChartAt w F cb L) {a : Acct} (ha : CanAdd L a) :
    Calls Tryz.prog 210 #[.pointer (some ⟨cb, 0, none⟩), accV a] w (MutPost F cb (insA a L) (.tuple #[]) w) := by
  obtain ⟨mb, rv, nb, kv, ps, h⟩ := h
  have hml := h.hM.lt
  have hcl := heap_lt h.hC
  obtain ⟨o, hmu, hmap⟩ := run_update_strmap (P := Tryz.prog) (h.hM.keep (w' := addW1 w a) (addW1_old w a hml)) Tryz.underlying145 Tryz.underlying9 a.name (.pointer (some ⟨w.heap.size + 1, 0, none⟩)) (by rw [h.hps, ha.none_]; rfl)
  have ho : ∀ x : World, x.heap[mb]? = some o → StrMap x mb (ps ++ [(a.name, ptrV (w.heap.size + 1))]) := fun x hx => by
    refine hmap.keep ?_
    rw [hx]
    have : mb < (addW1 w a).heap.size := by rw [addW1_size]; omega
    simp [World.putObj, Array.getElem?_setIfInBounds, this]
  obtain ⟨W2, hW2⟩ : ∃ W2, W2 = (addW1 w a).putObj mb o := ⟨_, rfl⟩
  rw [← hW2] at hmu hmap
  have hs2 : W2.heap.size = w.heap.size + 2 := by rw [hW2]; simp [World.putObj, addW1_size]
  have hA : W2.cell? ⟨w.heap.size, 0, none⟩ = some (.string a.name) := by
    have : W2.heap[w.heap.size]? = _ := (hW2 ▸ heap_putObj_other o (by omega)).trans (addW1_acc w a)
    rw [cell_of_blk this]
    rfl
  have old2 : ∀ k, k < w.heap.size → k ≠ mb → W2.heap[k]? = w.heap[k]? := fun k hk hkm => addW3_old hW2 (Below.refl _ _) hk hkm
  have hcb2 := old2 cb hcl h.cb_mb
  have hc0 : w.cell? ⟨cb, 0, none⟩ = some (.map (some mb)) := by rw [cell_of_blk h.hC]; rfl
  have hc1 : w.cell? ⟨cb, 1, none⟩ = some rv := by rw [cell_of_blk h.hC]; rfl
  have hle := h.le
  have hN : ∀ b ∈ L, nb b.name ≠ mb ∧ nb b.name < w.heap.size ∧ w.cell? ⟨nb b.name, 0, none⟩ = some (.string b.name) := fun b hb => ⟨h.nb_mb hb, heap_lt (h.hN b hb), by rw [cell_of_blk (h.hN b hb)]; rfl⟩
  cases hp : parentF a.name with
  | none =>
    have hr1 := own_ne h.hR h.hC (by decide)
    have hr2 := own_ne_map h.hR h.hM
    have hlen : (rootsA L).length ≤ 99 := Nat.le_trans (List.length_filter_le _ _) ha.room
    have hfz : W2.frozen? ⟨cb, 1, none⟩ = false := keep_frozen (frozen_of_row _ _ _ _ _ h.hC) hcb2
    refine (Go.Proofs.YtplocldnklccfaaGreatDoor.add_root cb mb rv a ((rootsA L).map (·.name)) (((rootsA L).map (·.name)).map fun s => .pointer (some ⟨nb s, 0, none⟩)) w W2 hcl ha.size hmu hc0 (by omega) (by omega) hA (keep_cell hc1 hcb2) hfz hr1 ?_ hp ?_).mono ?_
    · obtain ⟨A, c, e, _⟩ := own_slice2 h.hR
      exact ⟨A, _, c, e⟩
    · intro W3 hb
      exact put_ready o hW2 hb hlen (rising_filter _ ha.rising) hml h.hR hr2 fun b hb => hN b (List.mem_filter.1 hb).1
    · intro e w' hend
      obtain ⟨rfl, hm⟩ := add_mem w _ W2 mb cb 1 rv (rootsA L) a nb o e w' rfl hW2 hml hcl h.cb_mb.symm (fun e => hr2 e.symm) (fun e => hr1 e.symm) (fun k hk => (h.hR.lt k hk).2) (fun x hx => find_none ha.none_ x (List.mem_filter.1 hx).1) hend
      exact h.add_root ha hp ho hm
  | some u =>
    obtain ⟨p, hpL, rfl⟩ := ha.up u hp
    have hpn := h.hN p hpL
    have hpl := heap_lt hpn
    have hpb2 := old2 (nb p.name) hpl (h.nb_mb hpL)
    have hr1 := own_ne (h.hK p hpL) hpn (by decide)
    have hr0 := own_ne (h.hK p hpL) h.hC (by decide)
    have hr2 := own_ne_map (h.hK p hpL) h.hM
    have hlen : (kidsA L p.name).length ≤ 99 := Nat.le_trans (List.length_filter_le _ _) ha.room
    have hfz : W2.frozen? ⟨nb p.name, 4, none⟩ = false := keep_frozen (frozen_of_row _ _ _ _ _ hpn) hpb2
    have hk2 : W2.cell? ⟨nb p.name, 4, none⟩ = some (kv p.name) := keep_cell (by rw [cell_of_blk hpn]; rfl) hpb2
    refine (Go.Proofs.YtplocldnklccfaaGreatDoor.add_kid cb mb (nb p.name) (kv p.name) p.name a ((kidsA L p.name).map (·.name)) (((kidsA L p.name).map (·.name)).map fun s => .pointer (some ⟨nb s, 0, none⟩)) w W2 hcl ha.size hmu hc0 (by omega) (by omega) (by omega) (by omega) hA (keep_cell hc0 hcb2) hk2 hfz hr0 hr2 hr1 ?_ hp ?_ ?_).mono ?_
    · obtain ⟨A, c, e, _⟩ := own_slice2 (h.hK p hpL)
      exact ⟨A, _, c, e⟩
    · intro W' hW'
      have := run_lookup_strmap (P := Tryz.prog) (hmap.keep hW') Tryz.underlying145 Tryz.underlying9 Tryz.zeroValue234 p.name
      rw [this, getP_append, h.hps, find_mem ha.rising hpL]
      rfl
    · intro W3 hb
      exact put_ready o hW2 hb hlen (rising_filter _ ha.rising) hml (h.hK p hpL) hr2 fun b hb => hN b (List.mem_filter.1 hb).1
    · intro e w' hend
      obtain ⟨rfl, hm⟩ := add_mem w _ W2 mb (nb p.name) 4 (kv p.name) (kidsA L p.name) a nb o e w' rfl hW2 hml hpl (h.nb_mb hpL).symm (fun e => hr2 e.symm) (fun e => hr1 e.symm) (fun k hk => ((h.hK p hpL).lt k hk).2) (fun x hx => find_none ha.none_ x (List.mem_filter.1 hx).1) hend
      exact h.add_kid ha hpL hp ho hm
end Go.Proofs.YtplocldnklccfaaGreatDoor
namespace Go.Proofs.YtplocldnklccfaaGreatDoor
open Go.RowKit
set_option linter.unusedVariables false
set_option linter.unusedSimpArgs false

/-- What a round keeps: blocks below n₀; boxes of type T; from B on whatever is no cells. -/
structure Kp (T : TypeId) (n₀ B : Nat) (A A' : World) : Prop where
  bel : Below n₀ A A'
  box : ∀ k v, Boxed A k T v → Boxed A' k T v
  same : KeepsFrom B A A'

theorem Kp.refl (T : TypeId) (n₀ B : Nat) (A : World) : Kp T n₀ B A A := ⟨Below.refl _ _, fun _ _ h => h, KeepsFrom.refl _ _⟩
theorem Kp.trans {T : TypeId} {n₀ B : Nat} {X Y Z : World} (h : Kp T n₀ B X Y) (k : Kp T n₀ B Y Z) : Kp T n₀ B X Z := ⟨h.bel.trans k.bel, fun i v hi => k.box i v (h.box i v hi), h.same.trans k.same⟩
theorem Kp.mono {T : TypeId} {n₀ B B' : Nat} {X Y : World} (h : Kp T n₀ B X Y) (hB : B ≤ B') : Kp T n₀ B' X Y := ⟨h.bel, h.box, h.same.size, fun k o hk => h.same.same k o (Nat.le_trans hB hk)⟩
theorem Kp.drew {T : TypeId} {n₀ B : Nat} {X Y : World} (h : Kp T n₀ B X Y) : Kp T n₀ B X Y.drew := ⟨h.bel.drew, h.box, h.same.size, h.same.same⟩
theorem Kp.alloc {T : TypeId} {n₀ B : Nat} {X : World} (o : Obj) (h : n₀ ≤ X.heap.size) : Kp T n₀ B X (X.alloc o) :=
  ⟨(Below.refl _ _).alloc h o, fun k v hk => hk.alloc o, (KeepsOthers.alloc X o).from B⟩
/-- A block that is no cells is turned; it lies below B. -/
theorem Kp.putObj {T : TypeId} {n₀ B : Nat} {X : World} {l : Nat} {o : Obj} (o' : Obj) (h : n₀ ≤ l) (hl : X.heap[l]? = some o) (ho : o.isCells = false) (hB : l < B) : Kp T n₀ B X (X.putObj l o') :=
  ⟨(Below.refl _ _).grown (grownBy_putObj' X l o') (by have := (Array.getElem?_eq_some_iff.1 hl).1; omega) (fun k e => by cases e; exact h),
   fun k v hk => hk.kept (grownBy_putObj' X l o') (fun e => by injection e with e; subst e; rw [show X.heap[k]? = _ from hk] at hl; cases hl; cases ho),
   KeepsFrom.of_grownBy (grownBy_putObj' X l o') (fun j e => by cases e; exact hB)⟩
/-- A cell of a block of another type is turned. -/
theorem Kp.setCell {T : TypeId} {n₀ B : Nat} {X : World} {b i : Nat} (u : Value) (h : n₀ ≤ b) (hb : ∀ v, ¬ Boxed X b T v) : Kp T n₀ B X (X.setCell ⟨b, i, none⟩ u) :=
  ⟨(Below.refl _ _).setCell (p := ⟨b, i, none⟩) h u, fun k v hk => by
    have hne : k ≠ b := fun e => hb v (e ▸ hk)
    exact (Below.heap_setCell X ⟨b, i, none⟩ u k hne).trans hk, (KeepsOthers.setCell _ _ _).from B⟩

section
variable {α : Type} {F : Fence} {P : Program}

/-- What an iterator promises: all of ys come; or a round has said 'no more'. -/
def It (F : Fence) (P : Program) (g : Nat) (lb : Array Value) (T : TypeId) (enc : α → Value) (n₀ : Nat) (ys : List α) (w : World) : Prop :=
  ∀ (l : Nat) (J Jx : List α → World → Prop) (W : World), Below w.heap.size w W → OwnFrom W.heap.size J → OwnFrom W.heap.size Jx →
    (∀ m pre x W1, J pre W1 → pre ++ [x] <+: ys → YieldAt F m P l #[enc x] W1 fun e W' =>
      ((e = .returned (.bool true) ∧ J (pre ++ [x]) W') ∨ (e = .returned (.bool false) ∧ Jx (pre ++ [x]) W')) ∧ Kp T n₀ W.heap.size W1 W') →
    J [] W →
    ∀ n, CallsIn F n P g (#[.func (.yield l) #[] #[]] ++ lb) W fun e W' => (∃ v, e = .returned v) ∧ (J ys W' ∨ ∃ pre, pre <+: ys ∧ Jx pre W')

/-- How a round's body may be left. -/
def itPost (T : TypeId) (n₀ B : Nat) (I Ix : List α → World → Prop) (xs : List α) (W : World) : Exit → Act → World → Prop
  | .normal, _, W' => Kp T n₀ B W W' ∧ I xs W'
  | .ret, _, W' => Kp T n₀ B W W' ∧ Ix xs W'
  | _, _, _ => False

theorem wpIn_range_it {n : Nat} {g : Operand} {p : Tmp} {assign body : Code} {Q : Exit → Act → World → Prop} {a : Act} {w : World} {T : TypeId} {enc : α → Value} {n₀ : Nat} {ys : List α}
    (hd : F.depth = none) (hro : F.round = none) {gf : Nat} {lb : Array Value} (hg : a.eval g = .func (.func gf) #[] lb) (hFg : F.fn gf) (eg : ∀ args w, (callFunc gf args).run P w = .ok (.enter gf args) w)
    (hit : It F P gf lb T enc n₀ ys w) (hn₀ : n₀ ≤ w.heap.size)
    (I Ix : List α → World → Prop) (hI : OwnFrom w.heap.size I) (hIx : OwnFrom w.heap.size Ix) (h0 : I [] w)
    (Ax : α → Act → World → Prop) (hAx : ∀ x a', OwnFrom w.heap.size (fun (_ : Unit) W => Ax x a' W))
    (hassign : ∀ (l m : Nat) (pre : List α) (x : α) (W : World) (K : Act → World → Prop), w.heap.size ≤ W.heap.size → I pre W →
      (∀ a' W', Kp T n₀ w.heap.size W W' → I pre W' → Ax x a' W' → K a' W') →
      assign.wpIn (F.inRound l) m P (Exit.then K (fun _ _ _ => False)) { tmps := (#[p].zip #[enc x]).foldl (fun t (p, v) => t.setIfInBounds p v) a.tmps, defers := [] } W)
    (hbody : ∀ (l m : Nat) (pre : List α) (x : α) (a' : Act) (W : World), w.heap.size ≤ W.heap.size → I pre W → Ax x a' W → pre ++ [x] <+: ys → body.wpIn (F.inRound l) m P (itPost T n₀ w.heap.size I Ix (pre ++ [x]) W) a' W)
    (hdone : ∀ (D : Nat) (W : World), w.heap.size ≤ D → I ys W → W.heap[D]? = some (.deferred (some [])) → Q .normal { a with defers := { target := .collected D, args := #[] } :: a.defers } W)
    (hstop : ∀ (D : Nat) (pre : List α) (W : World), w.heap.size ≤ D → pre <+: ys → Ix pre W → W.heap[D]? = some (.deferred (some [])) → Code.ret.wpIn F n P Q { a with defers := { target := .collected D, args := #[] } :: a.defers } W) :
    (Code.rangeFunc g #[p] assign body).wpIn F n P Q a w := by
  refine wpIn_rangeFunc ?_
  intro fn hfn
  rw [hro]
  obtain ⟨rec, hrec⟩ : ∃ rec : LoopState → Option Code → Loop, rec = fun st pe => { state := st, pending := pe, fn, tmps := a.tmps, params := #[p], assign, body, defers := w.heap.size } := ⟨_, rfl⟩
  obtain ⟨W1, hW1⟩ : ∃ W1, (w.alloc (.deferred (some []))).alloc (.loop (rec .ready none)) = W1 := ⟨_, rfl⟩
  have hs1 : W1.heap.size = w.heap.size + 2 := by rw [← hW1]; simp
  have hL1 : W1.heap[w.heap.size + 1]? = some (.loop (rec .ready none)) := by
    rw [← hW1]; have := World.alloc_heap_new (w.alloc (.deferred (some []))) (.loop (rec .ready none)); rwa [World.size_alloc] at this
  have hK1 : W1.heap[w.heap.size]? = some (.deferred (some [])) := by
    rw [← hW1]; exact (Below.heap_alloc _ _ _ (by simp)).trans (World.alloc_heap_new w _)
  have hI1 : I [] W1 := by rw [← hW1]; exact hI.alloc _ (hI.alloc _ h0)
  have hb1 : Below w.heap.size w W1 := by
    rw [← hW1]; exact ((Below.refl _ w).alloc (Nat.le_refl _) _).alloc (by simp) _
  have keep : ∀ {A B : World} {row : Option Nat} {k : Nat} {o : Obj}, A.heap[k]? = some o → k < W1.heap.size → A.grownBy B row → (∀ r, row = some r → W1.heap.size ≤ r ∧ ∃ o : Obj, A.heap[r]? = some o ∧ o.isCells = false) → B.heap[k]? = some o :=
    fun hA hk hg hr => (hg.block _ (Array.getElem?_eq_some_iff.1 hA).1 (fun e => by have := (hr _ e.symm).1; omega)).trans hA
  have wide : ∀ {A B : World} {row : Option Nat}, (∀ r, row = some r → W1.heap.size ≤ r ∧ ∃ o : Obj, A.heap[r]? = some o ∧ o.isCells = false) → (∀ r, row = some r → w.heap.size ≤ r ∧ ∃ o : Obj, A.heap[r]? = some o ∧ o.isCells = false) :=
    fun hr r e => ⟨by have := (hr r e).1; omega, (hr r e).2⟩
  refine ⟨w.heap.size + 1, [{ target := .collected w.heap.size, args := #[] }], W1, { target := .fn (.func gf) lb, args := #[.func (.yield (w.heap.size + 1)) #[] #[]] }, W1, gf,
    #[.func (.yield (w.heap.size + 1)) #[] #[]] ++ lb, W1, ?_, ?_, ?_, ?_, fun h => by (rw [hd] at h; cases h), ?_⟩
  · rw [← hW1, hrec]; exact run_enterLoop_outer _ _ _ _ _
  · simp only [resolve, hg]
    simp [go_sem]
  · intro f' hf'; simp [Target.leads] at hf'; subst hf'; exact hFg
  · simp [invoke, go_sem, eg]
  · refine (hit (w.heap.size + 1)
      (fun pre W => I pre W ∧ W.heap[w.heap.size + 1]? = some (.loop (rec .ready none)) ∧ W.heap[w.heap.size]? = some (.deferred (some [])))
      (fun pre W => Ix pre W ∧ W.heap[w.heap.size + 1]? = some (.loop (rec .done (some .ret))) ∧ W.heap[w.heap.size]? = some (.deferred (some [])))
      W1 hb1
      (fun s A B row hs hg' hr => ⟨hI s A B row hs.1 hg' (wide (B := B) hr), keep hs.2.1 (by omega) hg' hr, keep hs.2.2 (by omega) hg' hr⟩)
      (fun s A B row hs hg' hr => ⟨hIx s A B row hs.1 hg' (wide (B := B) hr), keep hs.2.1 (by omega) hg' hr, keep hs.2.2 (by omega) hg' hr⟩)
      ?_ ⟨hI1, hL1, hK1⟩ (n - 1)).mono ?_
    · rintro m pre x W ⟨hi, hl, hk⟩ hpre
      have hlt : w.heap.size + 1 < W.heap.size := (Array.getElem?_eq_some_iff.1 hl).1
      have hy := run_yield (P := P) (args := #[enc x]) hl (by rw [hrec]; rfl)
      rw [hrec] at hy
      refine ⟨fn, _, assign, body, hy, roundIn_of_wpIn hfn ?_⟩
      clear hy
      refine hassign _ m pre x W _ (by omega) hi ?_
      intro a' Wa hka hia hax
      have hla := hka.same.same _ _ (by omega) hl rfl
      have hkk := hka.same.same _ _ (Nat.le_refl _) hk rfl
      have hlta : w.heap.size + 1 < Wa.heap.size := (Array.getElem?_eq_some_iff.1 hla).1
      refine ⟨_, run_beginRound hla (by rw [hrec]), ?_⟩
      have hl2 : (Wa.putObj (w.heap.size + 1) (.loop { rec .ready none with state := .busy })).heap[w.heap.size + 1]? = some (.loop { rec .ready none with state := .busy }) := World.putObj_heap_same hlta
      have hk2 : (Wa.putObj (w.heap.size + 1) (.loop { rec .ready none with state := .busy })).heap[w.heap.size]? = some (.deferred (some [])) := (World.putObj_heap_other (by omega)).trans hkk
      have hw2 : Kp T n₀ W1.heap.size Wa (Wa.putObj (w.heap.size + 1) (.loop { rec .ready none with state := .busy })) := Kp.putObj _ (by omega) hla rfl (by omega)
      refine wpIn_mono (hbody _ m pre x a' _ (by simp [World.putObj]; omega) (hI.putObj _ hia (by omega) hla rfl) ((hAx x a').putObj (s := ()) _ hax (by omega) hla rfl) hpre) ?_
      have fin : ∀ (jump : Option Code) (W3 : World), Kp T n₀ w.heap.size (Wa.putObj (w.heap.size + 1) (.loop { rec .ready none with state := .busy })) W3 →
          (Instr.endRound (w.heap.size + 1) jump).run P W3 = .ok (.bool jump.isNone) (W3.putObj (w.heap.size + 1) (.loop (rec (if jump.isNone then .ready else .done) jump))) ∧
          W3.heap[w.heap.size + 1]? = some (.loop { rec .ready none with state := .busy }) ∧
          (W3.putObj (w.heap.size + 1) (.loop (rec (if jump.isNone then .ready else .done) jump))).heap[w.heap.size + 1]? = some (.loop (rec (if jump.isNone then .ready else .done) jump)) ∧
          (W3.putObj (w.heap.size + 1) (.loop (rec (if jump.isNone then .ready else .done) jump))).heap[w.heap.size]? = some (.deferred (some [])) ∧
          Kp T n₀ W1.heap.size W (W3.putObj (w.heap.size + 1) (.loop (rec (if jump.isNone then .ready else .done) jump))) := fun jump W3 hk3 => by
        have hl3 := hk3.same.same _ _ (by omega) hl2 rfl
        have hrun := run_endRound (P := P) jump hl3
        rw [hrec] at hrun ⊢
        refine ⟨hrun, by rw [hrec] at hl3; exact hl3, World.putObj_heap_same (Array.getElem?_eq_some_iff.1 hl3).1, (World.putObj_heap_other (by omega)).trans (hk3.same.same _ _ (Nat.le_refl _) hk2 rfl), ?_⟩
        exact (((hka.mono (by omega)).trans hw2).trans (hk3.mono (by omega))).trans (Kp.putObj _ (by omega) hl3 rfl (by omega))
      rintro e a3 W3 hp
      cases e with
      | normal =>
        obtain ⟨hk3, hi3⟩ := hp
        obtain ⟨hr, hl3, hl4, hk4, hkp⟩ := fin none W3 hk3
        exact ⟨_, _, hr, .inl ⟨rfl, hI.putObj _ hi3 (by omega) hl3 rfl, hl4, hk4⟩, hkp⟩
      | ret =>
        obtain ⟨hk3, hi3⟩ := hp
        obtain ⟨hr, hl3, hl4, hk4, hkp⟩ := fin (some .ret) W3 hk3
        exact ⟨_, _, hr, .inr ⟨rfl, hIx.putObj _ hi3 (by omega) hl3 rfl, hl4, hk4⟩, hkp⟩
      | exit id => exact hp.elim
      | goto t => exact hp.elim
      | panic ch => exact hp.elim
      | outgrown => exact hp.elim
    · rintro e W2 ⟨⟨v, rfl⟩, (⟨hi, hl, hk⟩ | ⟨pre, hSp, hi, hl, hk⟩)⟩
      · exact ⟨none, _, by have := run_endLoop (P := P) hl (by rw [hrec]; simp); rw [hrec] at this; exact this, hdone _ _ (Nat.le_refl _) (hI.putObj _ hi (by omega) hl rfl) ((World.putObj_heap_other (by omega)).trans hk)⟩
      · exact ⟨some .ret, _, by have := run_endLoop (P := P) hl (by rw [hrec]; simp); rw [hrec] at this; exact this, hstop _ pre _ (Nat.le_refl _) hSp (hIx.putObj _ hi (by omega) hl rfl) ((World.putObj_heap_other (by omega)).trans hk)⟩
end
end Go.Proofs.YtplocldnklccfaaGreatDoor
namespace Go.Proofs.YtplocldnklccfaaGreatDoor
open Go.RowKit Go.Shelf
set_option linter.unusedVariables false
set_option linter.unusedSimpArgs false
attribute [local go_sem] Oper.semAt_some

/-- A list of accounts, each with all below it behind it, so many steps deep. -/
def preL (L : List Acct) : Nat → List Acct → List Acct
  | 0, _ => []
  | d + 1, l => l.flatMap fun a => a :: preL L d (kidsA L a.name)

/-- A row of pointers to accounts lies below n₀. -/
structure RowOK (n₀ : Nat) (w : World) (nb : ByteArray → Nat) (v : Value) (l : List Acct) : Prop where
  ex : ∃ A c, v = .slice A l.length c ∧ ∀ j (hj : j < l.length), ∃ ad, A = some ad ∧ ad.block < n₀ ∧ w.cell? (ad.add j) = some (ptrV (nb l[j].name))

structure ForestAt (n₀ : Nat) (w : World) (nb : ByteArray → Nat) (kv : ByteArray → Value) (L : List Acct) : Prop where
  lt : ∀ a ∈ L, nb a.name < n₀
  c0 : ∀ a ∈ L, w.cell? ⟨nb a.name, 0, none⟩ = some (.string a.name)
  c1 : ∀ a ∈ L, w.cell? ⟨nb a.name, 1, none⟩ = some (.int .i64 a.typ)
  c2 : ∀ a ∈ L, w.cell? ⟨nb a.name, 2, none⟩ = some (.int .i64 a.opened)
  c3 : ∀ a ∈ L, w.cell? ⟨nb a.name, 3, none⟩ = some (.bool a.closed)
  c4 : ∀ a ∈ L, w.cell? ⟨nb a.name, 4, none⟩ = some (kv a.name)
  kids : ∀ a ∈ L, RowOK n₀ w nb (kv a.name) (kidsA L a.name)

theorem block_add (ad : Addr) (j : Nat) : (ad.add j).block = ad.block := by unfold Addr.add; split <;> rfl

theorem RowOK.below {n₀ : Nat} {w w' : World} {nb : ByteArray → Nat} {v : Value} {l : List Acct} (h : RowOK n₀ w nb v l) (hb : Below n₀ w w') : RowOK n₀ w' nb v l := by
  obtain ⟨A, c, e, hA⟩ := h
  refine ⟨A, c, e, fun j hj => ?_⟩
  obtain ⟨ad, h1, h2, h3⟩ := hA j hj
  exact ⟨ad, h1, h2, (hb.cell (p := ad.add j) (by rw [block_add]; exact h2)).trans h3⟩
theorem ForestAt.below {n₀ : Nat} {w w' : World} {nb : ByteArray → Nat} {kv : ByteArray → Value} {L : List Acct} (h : ForestAt n₀ w nb kv L) (hb : Below n₀ w w') : ForestAt n₀ w' nb kv L where
  lt := h.lt
  c0 := fun a ha => (hb.cell (p := ⟨nb a.name, 0, none⟩) (h.lt a ha)).trans (h.c0 a ha)
  c1 := fun a ha => (hb.cell (p := ⟨nb a.name, 1, none⟩) (h.lt a ha)).trans (h.c1 a ha)
  c2 := fun a ha => (hb.cell (p := ⟨nb a.name, 2, none⟩) (h.lt a ha)).trans (h.c2 a ha)
  c3 := fun a ha => (hb.cell (p := ⟨nb a.name, 3, none⟩) (h.lt a ha)).trans (h.c3 a ha)
  c4 := fun a ha => (hb.cell (p := ⟨nb a.name, 4, none⟩) (h.lt a ha)).trans (h.c4 a ha)
  kids := fun a ha => (h.kids a ha).below hb

theorem CR.forest {w : World} {F : Nat → Prop} {cb mb : Nat} {L : List Acct} {rv : Value} {nb : ByteArray → Nat} {kv : ByteArray → Value} {ps : List (ByteArray × Value)}
    (h : CR w F cb L mb rv nb kv ps) : ForestAt w.heap.size w nb kv L ∧ RowOK w.heap.size w nb rv (rootsA L) := by
  have row : ∀ {v : Value} {l : List Acct}, w.ownsRow 0 234 1 v l.length (l.map fun b => ptrV (nb b.name)) → RowOK w.heap.size w nb v l := by
    intro v l ho
    rcases ho.2 with ⟨rfl, hn⟩ | ⟨g, cap, cur, rfl, hb, hg, r⟩
    · exact ⟨none, 0, by rw [hn], fun j hj => by omega⟩
    · exact ⟨_, cap, rfl, fun j hj => ⟨_, rfl, heap_lt hg, ho.cells (g := g) rfl j _ (by simp [hj])⟩⟩
  refine ⟨⟨fun a ha => heap_lt (h.hN a ha), ?_, ?_, ?_, ?_, ?_, fun a ha => row (h.hK a ha)⟩, row h.hR⟩
  all_goals intro a ha; rw [cell_of_blk (h.hN a ha)]; rfl

set_option maxHeartbeats 1000000 in
theorem below_in (F : Fence) (n : Nat) (h22 : F.fn 215) (hro : F.round = none) (A : Option Addr) (m c : Nat) (w : World) :
    CallsIn F n Tryz.prog 215 #[.slice A m c] w fun e w' => e = .returned (.func (.func 248) #[] #[.pointer (some ⟨w.heap.size, 0, none⟩)]) ∧ w' = w.alloc (.cells #[.slice A m c] 146) := by
  refine callsIn_of_wp Tryz.func215 rfl h22 ?_ hro
  simp only [Tryz.ntmps215, List.size_toArray, List.length_cons, List.length_nil, Nat.reduceAdd, Nat.reduceSub, Array.replicate_succ, Array.replicate_zero, List.push_toArray, List.append_toArray, List.nil_append, List.cons_append]
  gi_wp2
  go_ret
  exact ⟨rfl, rfl⟩
end Go.Proofs.YtplocldnklccfaaGreatDoor
namespace Go.Proofs.YtplocldnklccfaaGreatDoor
open Go.RowKit
set_option linter.unusedVariables false
set_option linter.unusedSimpArgs false

instance : DecidableEq Acct := fun a b =>
  decidable_of_iff (a.name = b.name ∧ a.typ = b.typ ∧ a.opened = b.opened ∧ a.closed = b.closed)
    ⟨fun h => by cases a; cases b; simp only at h; obtain ⟨h1, h2, h3, h4⟩ := h; subst h1 h2 h3 h4; rfl, fun h => by subst h; exact ⟨rfl, rfl, rfl, rfl⟩⟩

theorem good_size {n : ByteArray} (h : goodB n.data.toList = true) : n.size ≤ 102 := by
  unfold goodB at h
  simp only [Bool.and_eq_true, decide_eq_true_eq] at h
  have := h.1
  rwa [show n.data.toList.length = n.size from rfl] at this

theorem parent_some {n u : ByteArray} (h : parentF n = some u) : goodB n.data.toList = true ∧ ∃ i : Nat, i < n.size ∧ u = n.extract 0 i ∧ Lib.lastIndexByte n 58 = i := by
  unfold parentF at h
  split at h
  · rename_i hc
    refine ⟨hc.1, ?_⟩
    rcases Lib.lastIndexByte_spec n 58 with ⟨e, _⟩ | ⟨i, hi, e, _⟩
    · rw [e] at hc; omega
    · refine ⟨i, hi, ?_, e⟩
      rw [e] at h
      injection h with h
      exact h.symm
  · cases h

theorem extract0_list (n : ByteArray) (i : Nat) : (n.extract 0 i).data.toList = n.data.toList.take i := by
  rw [ByteArray.data_extract, Array.toList_extract]
  simp [List.extract]

theorem extract0_size (n : ByteArray) (i : Nat) (h : i ≤ n.size) : (n.extract 0 i).size = i := by
  rw [ByteArray.size_extract]
  omega

theorem parent_size {n u : ByteArray} (h : parentF n = some u) : u.size < n.size := by
  obtain ⟨_, i, hi, rfl, _⟩ := parent_some h
  rw [extract0_size n i (by omega)]
  exact hi

theorem cmpL_take : ∀ (l : List UInt8) (i : Nat), i < l.length → Lib.compareBytes (l.take i) l < 0
  | [], _, h => by simp at h
  | a :: r, 0, _ => by simp [Lib.compareBytes]
  | a :: r, i + 1, h => by
    have ih := cmpL_take r i (by simpa using h)
    simp only [List.take_succ_cons]
    unfold Lib.compareBytes
    simp [ih]

theorem parent_below {n u : ByteArray} (h : parentF n = some u) : cmpB u n < 0 := by
  obtain ⟨_, i, hi, rfl, _⟩ := parent_some h
  unfold cmpB
  rw [extract0_list]
  exact cmpL_take _ _ (by rw [show n.data.toList.length = n.size from rfl]; exact hi)

/-- What a list of a chart's accounts is. -/
structure Valid (L : List Acct) : Prop where
  rising : Rising L
  le : L.length ≤ 100
  good : ∀ a ∈ L, goodB a.name.data.toList = true
  up : ∀ a ∈ L, ∀ u, parentF a.name = some u → ∃ p ∈ L, p.name = u ∧ p.typ = a.typ ∧ p.opened ≤ a.opened ∧ (p.closed = true → a.closed = true)
  day : ∀ a ∈ L, 1 ≤ a.opened ∧ a.opened ≤ 3652059
  typ : ∀ a ∈ L, 1 ≤ a.typ ∧ a.typ ≤ 5

theorem valid_nil : Valid [] := ⟨List.Pairwise.nil, by simp, by simp, by simp, by simp, by simp⟩

theorem Valid.size {L : List Acct} (h : Valid L) {a : Acct} (ha : a ∈ L) : a.name.size ≤ 102 := good_size (h.good a ha)

theorem Rising.inj {L : List Acct} (h : Rising L) {a b : Acct} (ha : a ∈ L) (hb : b ∈ L) (hn : a.name = b.name) : a = b := by
  have h1 := find_mem h ha
  have h2 := find_mem h hb
  rw [hn, h2] at h1
  injection h1 with h1
  exact h1.symm

theorem Rising.nodup {L : List Acct} (h : Rising L) : L.Nodup := by
  refine List.Pairwise.imp ?_ h
  intro a b hab e
  subst e
  rw [cmp_self] at hab
  omega

/-- What may be laid into a valid list. -/
structure Fits (L : List Acct) (a : Acct) : Prop where
  none_ : findA L a.name = none
  room : L.length ≤ 99
  good : goodB a.name.data.toList = true
  up : ∀ u, parentF a.name = some u → ∃ p ∈ L, p.name = u ∧ p.typ = a.typ ∧ p.opened ≤ a.opened ∧ (p.closed = true → a.closed = true)
  day : 1 ≤ a.opened ∧ a.opened ≤ 3652059
  typ : 1 ≤ a.typ ∧ a.typ ≤ 5

theorem Fits.can {L : List Acct} {a : Acct} (h : Fits L a) (hv : Valid L) : CanAdd L a where
  rising := hv.rising
  none_ := h.none_
  room := h.room
  up := fun u hu => by obtain ⟨p, hp, e, _⟩ := h.up u hu; exact ⟨p, hp, e⟩
  nokid := fun b hb e => by
    obtain ⟨p, hp, e2, _⟩ := hv.up b hb _ e
    exact find_none h.none_ p hp e2
  self := fun e => by have := parent_size e; omega
  size := by have := good_size h.good; omega

theorem Fits.valid {L : List Acct} {a : Acct} (h : Fits L a) (hv : Valid L) : Valid (insA a L) where
  rising := rising_insA hv.rising (find_none h.none_)
  le := by rw [length_insA]; have := h.room; omega
  good := fun b hb => by rcases mem_insA.1 hb with rfl | hb; exact h.good; exact hv.good b hb
  up := fun b hb u hu => by
    rcases mem_insA.1 hb with rfl | hb
    · obtain ⟨p, hp, e⟩ := h.up u hu
      exact ⟨p, mem_insA.2 (.inr hp), e⟩
    · obtain ⟨p, hp, e⟩ := hv.up b hb u hu
      exact ⟨p, mem_insA.2 (.inr hp), e⟩
  day := fun b hb => by rcases mem_insA.1 hb with rfl | hb; exact h.day; exact hv.day b hb
  typ := fun b hb => by rcases mem_insA.1 hb with rfl | hb; exact h.typ; exact hv.typ b hb

/-- All that is below a list of accounts, and they. -/
def flatA (L l : List Acct) : List Acct := preL L 103 l

theorem preL_sub {L : List Acct} : ∀ (d : Nat) (l : List Acct), (∀ a ∈ l, a ∈ L) → ∀ x ∈ preL L d l, x ∈ L
  | 0, l, _, x, hx => by simp [preL] at hx
  | d + 1, l, hl, x, hx => by
    obtain ⟨a, ha, hx⟩ := List.mem_flatMap.1 hx
    rcases List.mem_cons.1 hx with rfl | hx
    · exact hl _ ha
    · exact preL_sub d _ (fun b hb => (List.mem_filter.1 hb).1) x hx

theorem nodup_filter {L : List Acct} (p : Acct → Bool) (h : L.Nodup) : (L.filter p).Nodup := List.Pairwise.filter p h

theorem Valid.kid {L : List Acct} (h : Valid L) : ∀ a ∈ L, ∀ b ∈ kidsA L a.name, a.name.size < b.name.size := fun a _ b hb => by
  have := (List.mem_filter.1 hb).2
  exact parent_size (by simpa using this)

theorem count_kids {L : List Acct} (h : Valid L) {x a : Acct} (hx : x ∈ L) (ha : a ∈ L) : (kidsA L a.name).count x = if parentF x.name = some a.name then 1 else 0 := by
  unfold kidsA
  rw [(nodup_filter _ h.rising.nodup).count]
  simp [hx]

/-- How often an account is told: as often as the list holds it, and as often as its parent is told. -/
theorem count_preL {L : List Acct} (h : Valid L) {x p : Acct} (hx : x ∈ L) (hp : p ∈ L) (hu : parentF x.name = some p.name) :
    ∀ (d : Nat) (l : List Acct), (∀ a ∈ l, a ∈ L) → (∀ a ∈ l, 102 < a.name.size + d) → (preL L d l).count x = l.count x + (preL L d l).count p
  | 0, l, hl, hB => by
    cases l with
    | nil => rfl
    | cons a r =>
      have h1 := hB a (by simp)
      have h2 := h.size (hl a (by simp))
      omega
  | d + 1, [], hl, hB => rfl
  | d + 1, a :: r, hl, hB => by
    have ih := count_preL h hx hp hu (d + 1) r (fun b hb => hl b (by simp [hb])) (fun b hb => hB b (by simp [hb]))
    have haL := hl a (by simp)
    have ihk := count_preL h hx hp hu d (kidsA L a.name) (fun b hb => (List.mem_filter.1 hb).1) fun b hb => by
      have h1 := hB a (by simp)
      have h2 := h.kid a haL b hb
      omega
    have e : preL L (d + 1) (a :: r) = a :: (preL L d (kidsA L a.name) ++ preL L (d + 1) r) := by
      show ((a :: r).flatMap fun a => a :: preL L d (kidsA L a.name)) = _
      rw [List.flatMap_cons]
      rfl
    rw [e, List.count_cons, List.count_append, List.count_cons, List.count_cons, List.count_append, ih, ihk, count_kids h hx haL]
    have hpa : parentF x.name = some a.name ↔ a = p := by
      rw [hu]
      constructor
      · intro e; injection e with e; exact h.rising.inj haL hp e.symm
      · rintro rfl; rfl
    by_cases hap : a = p
    · subst hap
      have : parentF x.name = some a.name := hu
      simp [this]
      omega
    · have hn : ¬ parentF x.name = some a.name := fun e => hap (hpa.1 e)
      rw [if_neg hn]
      have : (a == p) = false := by simpa using hap
      rw [this]
      simp
      omega

theorem count_root {L : List Acct} (h : Valid L) {x : Acct} (hx : x ∈ L) (hu : parentF x.name = none) :
    ∀ (d : Nat) (l : List Acct), (∀ a ∈ l, a ∈ L) → (∀ a ∈ l, 102 < a.name.size + d) → (preL L d l).count x = l.count x
  | 0, l, hl, hB => by
    cases l with
    | nil => rfl
    | cons a r =>
      have h1 := hB a (by simp)
      have h2 := h.size (hl a (by simp))
      omega
  | d + 1, [], hl, hB => rfl
  | d + 1, a :: r, hl, hB => by
    have ih := count_root h hx hu (d + 1) r (fun b hb => hl b (by simp [hb])) (fun b hb => hB b (by simp [hb]))
    have haL := hl a (by simp)
    have ihk := count_root h hx hu d (kidsA L a.name) (fun b hb => (List.mem_filter.1 hb).1) fun b hb => by
      have h1 := hB a (by simp)
      have h2 := h.kid a haL b hb
      omega
    have e : preL L (d + 1) (a :: r) = a :: (preL L d (kidsA L a.name) ++ preL L (d + 1) r) := by
      show ((a :: r).flatMap fun a => a :: preL L d (kidsA L a.name)) = _
      rw [List.flatMap_cons]
      rfl
    rw [e, List.count_cons, List.count_append, List.count_cons, ih, ihk, count_kids h hx haL, hu]
    simp

/-- From the roots on every account is told once. -/
theorem flat_perm {L : List Acct} (h : Valid L) : (flatA L (rootsA L)).Perm L := by
  have hroot : ∀ a ∈ rootsA L, a ∈ L := fun a ha => (List.mem_filter.1 ha).1
  have hB : ∀ a ∈ rootsA L, 102 < a.name.size + 103 := fun a _ => by omega
  rw [List.perm_iff_count]
  intro x
  by_cases hx : x ∈ L
  · rw [h.rising.nodup.count, if_pos hx]
    have key : ∀ n (x : Acct), x ∈ L → x.name.size = n → (flatA L (rootsA L)).count x = 1 := by
      intro n
      induction n using Nat.strongRecOn with
      | _ n ih =>
        intro x hx hn
        cases hu : parentF x.name with
        | none =>
          unfold flatA
          rw [count_root h hx hu 103 _ hroot hB]
          unfold rootsA
          rw [(nodup_filter _ h.rising.nodup).count]
          simp [hx, hu]
        | some u =>
          obtain ⟨p, hp, rfl, _⟩ := h.up x hx u hu
          have hlt := parent_size hu
          have := ih p.name.size (by omega) p hp rfl
          unfold flatA at this ⊢
          rw [count_preL h hx hp hu 103 _ hroot hB, this]
          unfold rootsA
          rw [(nodup_filter _ h.rising.nodup).count]
          simp [hu]
    exact key _ x hx rfl
  · rw [List.count_eq_zero.2 hx, List.count_eq_zero.2]
    intro hm
    exact hx (preL_sub 103 _ hroot x hm)

/-- A rising list is its own sorting. -/
theorem rising_unique {L l : List Acct} (hp : l.Perm L) (hL : Rising L) (hl : Rising l) : l = L := by
  unfold Rising at hL hl
  refine List.Perm.eq_of_pairwise (le := fun a b : Acct => cmpB a.name b.name < 0) ?_ hl hL hp
  intro a b _ _ h1 h2
  have := cmp_trans h1 h2
  rw [cmp_self] at this
  omega
end Go.Proofs.YtplocldnklccfaaGreatDoor
