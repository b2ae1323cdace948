/- New and Kids of a chart. -/
import Derived.Test.YthbiepgpflpfoaaDoorMay
import Derived.OwnWalk
import Derived.Maps.AppendAt
import Derived.Carry
namespace Go.Proofs.YthbiepgpflpfoaaDoor
open Go.RowKit
set_option linter.unusedVariables false
set_option linter.unusedSimpArgs false

theorem new_chart (w : World) : ChartAt ((w.alloc (.map #[] 0)).alloc (.cells #[.map (some w.heap.size), .slice none 0 0] 59)) (fun k => w.heap.size ≤ k ∧ k < w.heap.size + 2) (w.heap.size + 1) [] := by
  refine ⟨w.heap.size, .slice none 0 0, fun _ => 0, fun _ => .slice none 0 0, [], ?_⟩
  refine { hC := ?_, hM := ?_, hps := fun _ => rfl, hlen := rfl, le := by decide, hN := ?_, hK := ?_, hR := World.ownsRow_nil _ _ _ _, fC := by omega, fM := by omega, fN := ?_, fK := ?_, fR := ?_, inj := ?_, dK := ?_, dR := ?_ }
  · have := heap_alloc_new (w.alloc (.map #[] 0)) (.cells #[.map (some w.heap.size), .slice none 0 0] 59)
    simpa using this
  · refine ⟨#[], 0, ?_, rfl⟩
    rw [Below.heap_alloc _ _ _ (by simp), heap_alloc_new]
  all_goals simp [Value.ownBlock]

theorem New_any (w : World) :
    Calls Tryd.prog 9 #[] w fun e w' => e = .returned (ptrV (w.heap.size + 1)) ∧ ChartAt w' (fun k => w.heap.size ≤ k ∧ k < w.heap.size + 2) (w.heap.size + 1) [] ∧ w'.heap.size = w.heap.size + 2 ∧ Below w.heap.size w w' := by
  have hmm := @run_makeMap Tryd.prog
  have HN := Lib.hid (new_chart w)
  go_enter Tryd.func9, Tryd.ntmps9
  go_wp2
  go_ret
  exact ⟨rfl, HN.out, by simp, ((Below.refl _ _).alloc (Nat.le_refl _) _).alloc (by simp) _⟩

/-- The names of those in a list. -/
def namesV (l : List Acct) : List Value := l.map fun a => .string a.name

theorem namesV_take (l : List Acct) (k : Nat) (h : k < l.length) : namesV (l.take (k + 1)) = namesV (l.take k) ++ [.string l[k].name] := by
  rw [List.take_succ_eq_append_getElem h]
  simp only [namesV, List.map_append, List.map_cons, List.map_nil]

structure KidsInv (w0 : World) (l : List Acct) (v i : Value) (wr : World) (k : Nat) : Prop where
  le : k ≤ l.length
  at_ : i = .int .i64 (k : Int)
  own : wr.ownsRow w0.heap.size 9 1 v k (namesV (l.take k))
  bel : Below w0.heap.size w0 wr
theorem info_str : (Tryd.prog.info? 9).map (fun i => (i.zero, i.size, i.bytes)) = some (some (.string ByteArray.empty), 1, 16) := by kernel_rfl

set_option maxRecDepth 100000 in
set_option maxHeartbeats 1000000 in
/-- The walk of Kids' second half: the loop over a list of nodes. -/
theorem Kids_list (cb mb pb : Nat) (name : ByteArray) (A : Option Addr) (c : Nat) (l : List Acct) (nb : ByteArray → Nat) (w : World) (hl : l.length ≤ 100)
    (hr : ∃ rv, w.cell? ⟨cb, 1, none⟩ = some (.slice rv.1 rv.2.1 rv.2.2) ∧ w.cell? ⟨cb, 0, none⟩ = some (.map (some mb)) ∧ ((name.toList.isEmpty = true ∧ rv = (A, l.length, c)) ∨ (name.toList.isEmpty = false ∧
      Sem.run Tryd.prog (Instr.lookup 56 (.map (some mb)) (.string name) false) w = .ok (.pointer (some ⟨pb, 0, none⟩)) w ∧ w.cell? ⟨pb, 4, none⟩ = some (.slice A l.length c))))
    (hA : ∀ j (hj : j < l.length), ∃ ad, A = some ad ∧ ad.block < w.heap.size ∧ w.cell? (ad.add j) = some (ptrV (nb l[j].name)))
    (hN : ∀ j (hj : j < l.length), nb l[j].name < w.heap.size ∧ w.cell? ⟨nb l[j].name, 0, none⟩ = some (.string l[j].name)) :
    Calls Tryd.prog 18 #[.pointer (some ⟨cb, 0, none⟩), .string name] w fun e w' => ∃ v, e = .returned v ∧ w'.ownsRow w.heap.size 9 1 v l.length (namesV l) ∧ Below w.heap.size w w' := by
  obtain ⟨i0, hi, hz0, hz1, hz2⟩ := info_parts info_str
  have HA := Lib.hid hA
  have HN := Lib.hid hN
  clear hA hN
  obtain ⟨⟨r1, r2, r3⟩, hc1, hc0, hsel⟩ := hr
  rcases hsel with ⟨hne, hrv⟩ | ⟨hne, hlk, hc4⟩
  · obtain ⟨rfl, rfl, rfl⟩ : r1 = A ∧ r2 = l.length ∧ r3 = c := by simpa using hrv
    simp only at hc1
    clear hrv
    go_enter Tryd.func18, Tryd.ntmps18
    go_wp2
    go_loopw [7, 30] (fun v i wr => ∃ k, KidsInv w l v i wr k) (fun _ i _ => l.length - (intOf i).toNat)
    case atStart => exact ⟨0, Nat.zero_le _, rfl, World.ownsRow_nil _ _ _ _, Below.refl _ _⟩
    case round =>
      obtain ⟨k, hk, rfl, hown, hbel⟩ := hrel
      by_cases hlt : k < l.length
      · obtain ⟨ad, rfl, hab, hcell⟩ := HA.out k hlt
        obtain ⟨hnb, hname⟩ := HN.out k hlt
        obtain ⟨a, ha⟩ : ∃ a, a = l[k] := ⟨_, rfl⟩
        rw [← ha] at hcell hnb hname
        unfold ptrV at hcell
        have hcell' := ((hbel.cell (p := ad.add k) (by rw [show (ad.add k).block = ad.block from by unfold Addr.add; split <;> rfl]; exact hab)).trans hcell)
        have hname' := (hbel.cell (p := ⟨nb a.name, 0, none⟩) hnb).trans hname
        have HO := Lib.hid hown
        have HAl := Lib.hid ha
        clear ha hown hcell hname
        go_wp2_with (at_builtin; refine wpList_append_own _ rfl _ _ 48 rfl w.heap.size 9 i0 (.string ByteArray.empty) 1 16 Tryd.underlying48 hi hz0 hz1 hz2 rfl (by decide) _ _ _ rfl (HO.out.alloc _) ⟨wr.heap.size, 0, none⟩ 1 1 [.string a.name] rfl rfl ?c1 ?c2 ?c3 ?c4 ?c5 ?_)
        case c1 => exact cell_one_new _ _ _
        case c2 => simp [Value.oneCell']
        case c3 => unfold maxLen; omega
        case c4 => omega
        case c5 => have := hbel.size; simp; omega
        intro v' w1 hown' hgrow _
        have hb1 : Below w.heap.size w w1 := (hbel.alloc hbel.size _).grown hgrow (by have := hbel.size; simp; omega) fun k' hk' => (HO.out.lt k' hk').1
        have HO1 := Lib.hid hown'
        clear hown' hgrow
        go_wp2
        go_roundw
        case rel => exact ⟨k + 1, by omega, by go_num, by
          have := HO1.out
          rw [namesV_take l k hlt, ← HAl.out]
          exact this, hb1⟩
        case measure => simp [intOf]; omega
      · go_wp2
        go_ret
        obtain rfl : k = l.length := by omega
        exact ⟨_, rfl, by simpa using hown, hbel⟩
  · simp only at hc1
    go_enter Tryd.func18, Tryd.ntmps18
    go_wp2
    go_loopw [7, 30] (fun v i wr => ∃ k, KidsInv w l v i wr k) (fun _ i _ => l.length - (intOf i).toNat)
    case atStart => exact ⟨0, Nat.zero_le _, rfl, World.ownsRow_nil _ _ _ _, Below.refl _ _⟩
    case round =>
      obtain ⟨k, hk, rfl, hown, hbel⟩ := hrel
      by_cases hlt : k < l.length
      · obtain ⟨ad, rfl, hab, hcell⟩ := HA.out k hlt
        obtain ⟨hnb, hname⟩ := HN.out k hlt
        obtain ⟨a, ha⟩ : ∃ a, a = l[k] := ⟨_, rfl⟩
        rw [← ha] at hcell hnb hname
        unfold ptrV at hcell
        have hcell' := ((hbel.cell (p := ad.add k) (by rw [show (ad.add k).block = ad.block from by unfold Addr.add; split <;> rfl]; exact hab)).trans hcell)
        have hname' := (hbel.cell (p := ⟨nb a.name, 0, none⟩) hnb).trans hname
        have HO := Lib.hid hown
        have HAl := Lib.hid ha
        clear ha hown hcell hname
        go_wp2_with (at_builtin; refine wpList_append_own _ rfl _ _ 48 rfl w.heap.size 9 i0 (.string ByteArray.empty) 1 16 Tryd.underlying48 hi hz0 hz1 hz2 rfl (by decide) _ _ _ rfl (HO.out.alloc _) ⟨wr.heap.size, 0, none⟩ 1 1 [.string a.name] rfl rfl ?c1 ?c2 ?c3 ?c4 ?c5 ?_)
        case c1 => exact cell_one_new _ _ _
        case c2 => simp [Value.oneCell']
        case c3 => unfold maxLen; omega
        case c4 => omega
        case c5 => have := hbel.size; simp; omega
        intro v' w1 hown' hgrow _
        have hb1 : Below w.heap.size w w1 := (hbel.alloc hbel.size _).grown hgrow (by have := hbel.size; simp; omega) fun k' hk' => (HO.out.lt k' hk').1
        have HO1 := Lib.hid hown'
        clear hown' hgrow
        go_wp2
        go_roundw
        case rel => exact ⟨k + 1, by omega, by go_num, by
          have := HO1.out
          rw [namesV_take l k hlt, ← HAl.out]
          exact this, hb1⟩
        case measure => simp [intOf]; omega
      · go_wp2
        go_ret
        obtain rfl : k = l.length := by omega
        exact ⟨_, rfl, by simpa using hown, hbel⟩

set_option maxRecDepth 100000 in
theorem Kids_nil (cb mb : Nat) (name : ByteArray) (rv : Option Addr × Nat × Nat) (w : World) (hc1 : w.cell? ⟨cb, 1, none⟩ = some (.slice rv.1 rv.2.1 rv.2.2)) (hc0 : w.cell? ⟨cb, 0, none⟩ = some (.map (some mb)))
    (hne : name.toList.isEmpty = false) (hlk : Sem.run Tryd.prog (Instr.lookup 56 (.map (some mb)) (.string name) false) w = .ok (.pointer none) w) :
    Calls Tryd.prog 18 #[.pointer (some ⟨cb, 0, none⟩), .string name] w fun e w' => e = .returned (.slice none 0 0) ∧ w = w' := by
  go_enter Tryd.func18, Tryd.ntmps18
  go_wp2
  go_ret
  exact ⟨rfl, rfl⟩

/-- Whom Kids tells. -/
def kidsL (L : List Acct) (name : ByteArray) : List Acct :=
  if name.toList.isEmpty then rootsA L else match findA L name with
    | none => []
    | some a => kidsA L a.name

theorem own_slice' {w : World} {B e n : Nat} {v : Value} {xs : List Value} (h : w.ownsRow B e 1 v n xs) : ∃ A c, v = .slice A n c ∧ ∀ j u, xs[j]? = some u → ∃ ad, A = some ad ∧ ad.block < w.heap.size ∧ w.cell? (ad.add j) = some u := by
  rcases h.2 with ⟨rfl, rfl⟩ | ⟨g, cap, cur, rfl, hb, hg, r⟩
  · have hx : xs = [] := by simpa using h.1
    subst hx
    exact ⟨none, 0, rfl, fun j u hu => by simp at hu⟩
  · exact ⟨_, cap, rfl, fun j u hu => ⟨_, rfl, heap_lt hg, h.cells (g := g) rfl j u hu⟩⟩

theorem Kids_any {w : World} {F : Nat → Prop} {cb : Nat} {L : List Acct} (h : ChartAt w F cb L) (name : ByteArray) :
    Calls Tryd.prog 18 #[.pointer (some ⟨cb, 0, none⟩), .string name] w fun e w' => ∃ v, e = .returned v ∧ w'.ownsRow w.heap.size 9 1 v (kidsL L name).length (namesV (kidsL L name)) ∧ Below w.heap.size w w' := by
  obtain ⟨mb, rv, nb, kv, ps, h⟩ := h
  have hlk := h.lookup name
  have hc0 : w.cell? ⟨cb, 0, none⟩ = some (.map (some mb)) := by rw [cell_of_blk h.hC]; rfl
  have hc1 : w.cell? ⟨cb, 1, none⟩ = some rv := by rw [cell_of_blk h.hC]; rfl
  obtain ⟨Ar, cr, rfl, hrow⟩ := own_slice' h.hR
  have hsub : ∀ (l : List Acct), (∀ b ∈ l, b ∈ L) → ∀ j (hj : j < l.length), nb l[j].name < w.heap.size ∧ w.cell? ⟨nb l[j].name, 0, none⟩ = some (.string l[j].name) := fun l hl j hj => by
    have hm := h.hN _ (hl _ (List.getElem_mem hj))
    exact ⟨heap_lt hm, by rw [cell_of_blk hm]; rfl⟩
  have hle := h.le
  unfold kidsL
  by_cases he : name.toList.isEmpty = true
  · rw [if_pos he]
    refine Kids_list cb mb 0 name Ar cr (rootsA L) nb w ?_ ⟨(Ar, (rootsA L).length, cr), hc1, hc0, .inl ⟨he, rfl⟩⟩ ?_ (hsub _ fun b hb => (List.mem_filter.1 hb).1)
    · have := List.length_filter_le (fun a : Acct => decide (parentF a.name = none)) L
      unfold rootsA; omega
    · intro j hj
      exact hrow j _ (by simp [hj])
  · have he' : name.toList.isEmpty = false := by simpa using he
    rw [if_neg he]
    cases hf : findA L name with
    | none =>
      rw [hf] at hlk
      exact (Kids_nil cb mb name (Ar, _, cr) w hc1 hc0 he' hlk).mono fun e w' ⟨h1, h2⟩ => ⟨_, h1, by subst h2; exact World.ownsRow_nil _ _ _ _, by subst h2; exact Below.refl _ _⟩
    | some a =>
      rw [hf] at hlk
      obtain ⟨ha, rfl⟩ := findA_some hf
      obtain ⟨Ak, ck, hkv, hrk⟩ := own_slice' (h.hK a ha)
      refine Kids_list cb mb (nb a.name) a.name Ak ck (kidsA L a.name) nb w ?_ ⟨(Ar, _, cr), hc1, hc0, .inr ⟨he', hlk, ?_⟩⟩ ?_ (hsub _ fun b hb => (List.mem_filter.1 hb).1)
      · have := List.length_filter_le (fun b : Acct => decide (parentF b.name = some a.name)) L
        unfold kidsA; omega
      · rw [cell_of_blk (h.hN a ha), ← hkv]; rfl
      · intro j hj
        exact hrk j _ (by simp [hj])
end Go.Proofs.YthbiepgpflpfoaaDoor
