/- Parent; New and Kids of a chart; add: an account that may be there; add over charts: the list of accounts has one more; add over charts: the chart of one account more; What a chart's list of accounts is; the list told from the roots on is a shuffling of it. No program; Close of a chart; add over charts: the whole. -/
import Derived.Test.YtplocldnklccfaaGreatDoorPack1
import Derived.Test.YtplocldnklccfaaGreatDoorPack2
import Derived.OwnWalk
import Derived.Maps.AppendAt
import Derived.Carry
import Derived.RegionTactic
import Derived.StillTailTactics
namespace Go.Proofs.YtplocldnklccfaaGreatDoor
open Go.RowKit
set_option linter.unusedVariables false
set_option linter.unusedSimpArgs false

theorem Parent_any (s : ByteArray) (w : World) (hs : s.size ≤ 140737488355328) :
    Calls Tryz.prog 10 #[.string s] w fun e w' => e = .returned (.tuple #[.string ((parentF s).getD ⟨#[]⟩), .bool (parentF s).isSome]) ∧ Below w.heap.size w w' := by
  have hl := Tryz.strings_LastIndexByte s 58 (by omega) w
  have hg := fun w => Good_any s w (by unfold maxLen; omega)
  obtain ⟨i, hi⟩ : ∃ i, i = Lib.lastIndexByte s 58 := ⟨_, rfl⟩
  have hle : i ≤ s.size := by
    rw [hi]
    rcases Lib.lastIndexByte_spec s 58 with ⟨h, _⟩ | ⟨j, hj, h, _⟩ <;> rw [h] <;> omega
  obtain ⟨P, hP⟩ : ∃ P, P = parentF s := ⟨_, rfl⟩
  rw [← hP]
  have HP := Lib.hid hP
  clear hP
  rw [← hi] at hl
  have HI := Lib.hid hi
  clear hi
  by_cases h0 : i < 0
  · have e : P = none := by rw [HP.out]; unfold parentF; rw [if_neg (by rw [← HI.out]; omega)]
    subst e
    go_enter Tryz.func10, Tryz.ntmps10
    go_wp2_with (go_at_call 27; refine hl.mono ?_; rintro e w' ⟨rfl, rfl⟩)
    go_ret2
    exact ⟨rfl, Below.refl _ _⟩
  · cases hb : goodB s.data.toList with
    | false =>
      have e : P = none := by rw [HP.out]; unfold parentF; rw [if_neg (by rw [hb]; simp)]
      subst e
      rw [hb] at hg
      clear hb
      go_enter Tryz.func10, Tryz.ntmps10
      go_wp2_with (first | (go_at_call 27; refine hl.mono ?_; rintro e w' ⟨rfl, rfl⟩) | (go_at_call 6; refine (hg _).mono ?_; rintro e w' ⟨rfl, hbel⟩))
      go_ret2
      exact ⟨rfl, hbel⟩
    | true =>
      obtain ⟨k, rfl⟩ : ∃ k : Nat, i = k := ⟨i.toNat, by omega⟩
      have e : P = some (s.extract 0 k) := by rw [HP.out]; unfold parentF; rw [if_pos ⟨hb, by rw [← HI.out]; omega⟩, ← HI.out]; simp
      subst e
      rw [hb] at hg
      clear hb
      have hk : k ≤ s.size := by omega
      go_enter Tryz.func10, Tryz.ntmps10
      go_wp2_with (first | (go_at_call 27; refine hl.mono ?_; rintro e w' ⟨rfl, rfl⟩) | (go_at_call 6; refine (hg _).mono ?_; rintro e w' ⟨rfl, hbel⟩))
      go_ret2
      exact ⟨rfl, hbel⟩
end Go.Proofs.YtplocldnklccfaaGreatDoor
namespace Go.Proofs.YtplocldnklccfaaGreatDoor
open Go.RowKit
set_option linter.unusedVariables false
set_option linter.unusedSimpArgs false

theorem new_chart (w : World) : ChartAt ((w.alloc (.map #[] 0)).alloc (.cells #[.map (some w.heap.size), .slice none 0 0] 148)) (fun k => w.heap.size ≤ k ∧ k < w.heap.size + 2) (w.heap.size + 1) [] := by
  refine ⟨w.heap.size, .slice none 0 0, fun _ => 0, fun _ => .slice none 0 0, [], ?_⟩
  refine { hC := ?_, hM := ?_, hps := fun _ => rfl, hlen := rfl, le := by decide, hN := ?_, hK := ?_, hR := World.ownsRow_nil _ _ _ _, fC := by omega, fM := by omega, fN := ?_, fK := ?_, fR := ?_, inj := ?_, dK := ?_, dR := ?_ }
  · have := heap_alloc_new (w.alloc (.map #[] 0)) (.cells #[.map (some w.heap.size), .slice none 0 0] 148)
    simpa using this
  · refine ⟨#[], 0, ?_, rfl⟩
    rw [Below.heap_alloc _ _ _ (by simp), heap_alloc_new]
  all_goals simp [Value.ownBlock]

theorem New_any (w : World) :
    Calls Tryz.prog 73 #[] w fun e w' => e = .returned (ptrV (w.heap.size + 1)) ∧ ChartAt w' (fun k => w.heap.size ≤ k ∧ k < w.heap.size + 2) (w.heap.size + 1) [] ∧ w'.heap.size = w.heap.size + 2 ∧ Below w.heap.size w w' := by
  have hmm := @run_makeMap Tryz.prog
  have HN := Lib.hid (new_chart w)
  go_enter Tryz.func73, Tryz.ntmps73
  go_wp2
  go_ret
  exact ⟨rfl, HN.out, by simp, ((Below.refl _ _).alloc (Nat.le_refl _) _).alloc (by simp) _⟩

/-- The names of those in a list. -/
def namesV (l : List Acct) : List Value := l.map fun a => .string a.name

theorem namesV_take (l : List Acct) (k : Nat) (h : k < l.length) : namesV (l.take (k + 1)) = namesV (l.take k) ++ [.string l[k].name] := by
  rw [List.take_succ_eq_append_getElem h]
  simp only [namesV, List.map_append, List.map_cons, List.map_nil]

structure KidsInv (w0 : World) (l : List Acct) (v i : Value) (wr : World) (k : Nat) : Prop where
  le : k ≤ l.length
  at_ : i = .int .i64 (k : Int)
  own : wr.ownsRow w0.heap.size 9 1 v k (namesV (l.take k))
  bel : Below w0.heap.size w0 wr
theorem info_str : (Tryz.prog.info? 9).map (fun i => (i.zero, i.size, i.bytes)) = some (some (.string ByteArray.empty), 1, 16) := by kernel_rfl

set_option maxRecDepth 100000 in
set_option maxHeartbeats 1000000 in
/-- The walk of Kids' second half: the loop over a list of nodes. -/
theorem Kids_list (cb mb pb : Nat) (name : ByteArray) (A : Option Addr) (c : Nat) (l : List Acct) (nb : ByteArray → Nat) (w : World) (hl : l.length ≤ 100)
    (hr : ∃ rv, w.cell? ⟨cb, 1, none⟩ = some (.slice rv.1 rv.2.1 rv.2.2) ∧ w.cell? ⟨cb, 0, none⟩ = some (.map (some mb)) ∧ ((name.toList.isEmpty = true ∧ rv = (A, l.length, c)) ∨ (name.toList.isEmpty = false ∧
      Sem.run Tryz.prog (Instr.lookup 145 (.map (some mb)) (.string name) false) w = .ok (.pointer (some ⟨pb, 0, none⟩)) w ∧ w.cell? ⟨pb, 4, none⟩ = some (.slice A l.length c))))
    (hA : ∀ j (hj : j < l.length), ∃ ad, A = some ad ∧ ad.block < w.heap.size ∧ w.cell? (ad.add j) = some (ptrV (nb l[j].name)))
    (hN : ∀ j (hj : j < l.length), nb l[j].name < w.heap.size ∧ w.cell? ⟨nb l[j].name, 0, none⟩ = some (.string l[j].name)) :
    Calls Tryz.prog 158 #[.pointer (some ⟨cb, 0, none⟩), .string name] w fun e w' => ∃ v, e = .returned v ∧ w'.ownsRow w.heap.size 9 1 v l.length (namesV l) ∧ Below w.heap.size w w' := by
  obtain ⟨i0, hi, hz0, hz1, hz2⟩ := info_parts info_str
  have HA := Lib.hid hA
  have HN := Lib.hid hN
  clear hA hN
  obtain ⟨⟨r1, r2, r3⟩, hc1, hc0, hsel⟩ := hr
  rcases hsel with ⟨hne, hrv⟩ | ⟨hne, hlk, hc4⟩
  · obtain ⟨rfl, rfl, rfl⟩ : r1 = A ∧ r2 = l.length ∧ r3 = c := by simpa using hrv
    simp only at hc1
    clear hrv
    go_enter Tryz.func158, Tryz.ntmps158
    go_wp2
    go_loopw [7, 30] (fun v i wr => ∃ k, KidsInv w l v i wr k) (fun _ i _ => l.length - (intOf i).toNat)
    case atStart => exact ⟨0, Nat.zero_le _, rfl, World.ownsRow_nil _ _ _ _, Below.refl _ _⟩
    case round =>
      obtain ⟨k, hk, rfl, hown, hbel⟩ := hrel
      by_cases hlt : k < l.length
      · obtain ⟨ad, rfl, hab, hcell⟩ := HA.out k hlt
        obtain ⟨hnb, hname⟩ := HN.out k hlt
        obtain ⟨a, ha⟩ : ∃ a, a = l[k] := ⟨_, rfl⟩
        rw [← ha] at hcell hnb hname
        unfold ptrV at hcell
        have hcell' := ((hbel.cell (p := ad.add k) (by rw [show (ad.add k).block = ad.block from by unfold Addr.add; split <;> rfl]; exact hab)).trans hcell)
        have hname' := (hbel.cell (p := ⟨nb a.name, 0, none⟩) hnb).trans hname
        have HO := Lib.hid hown
        have HAl := Lib.hid ha
        clear ha hown hcell hname
        go_wp2_with (at_builtin; refine wpList_append_own _ rfl _ _ 50 rfl w.heap.size 9 i0 (.string ByteArray.empty) 1 16 Tryz.underlying50 hi hz0 hz1 hz2 rfl (by decide) _ _ _ rfl (HO.out.alloc _) ⟨wr.heap.size, 0, none⟩ 1 1 [.string a.name] rfl rfl ?c1 ?c2 ?c3 ?c4 ?c5 ?_)
        case c1 => exact cell_one_new _ _ _
        case c2 => simp [Value.oneCell']
        case c3 => unfold maxLen; omega
        case c4 => omega
        case c5 => have := hbel.size; simp; omega
        intro v' w1 hown' hgrow _
        have hb1 : Below w.heap.size w w1 := (hbel.alloc hbel.size _).grown hgrow (by have := hbel.size; simp; omega) fun k' hk' => (HO.out.lt k' hk').1
        have HO1 := Lib.hid hown'
        clear hown' hgrow
        go_wp2
        go_roundw
        case rel => exact ⟨k + 1, by omega, by go_num, by
          have := HO1.out
          rw [namesV_take l k hlt, ← HAl.out]
          exact this, hb1⟩
        case measure => simp [intOf]; omega
      · go_wp2
        go_ret
        obtain rfl : k = l.length := by omega
        exact ⟨_, rfl, by simpa using hown, hbel⟩
  · simp only at hc1
    go_enter Tryz.func158, Tryz.ntmps158
    go_wp2
    go_loopw [7, 30] (fun v i wr => ∃ k, KidsInv w l v i wr k) (fun _ i _ => l.length - (intOf i).toNat)
    case atStart => exact ⟨0, Nat.zero_le _, rfl, World.ownsRow_nil _ _ _ _, Below.refl _ _⟩
    case round =>
      obtain ⟨k, hk, rfl, hown, hbel⟩ := hrel
      by_cases hlt : k < l.length
      · obtain ⟨ad, rfl, hab, hcell⟩ := HA.out k hlt
        obtain ⟨hnb, hname⟩ := HN.out k hlt
        obtain ⟨a, ha⟩ : ∃ a, a = l[k] := ⟨_, rfl⟩
        rw [← ha] at hcell hnb hname
        unfold ptrV at hcell
        have hcell' := ((hbel.cell (p := ad.add k) (by rw [show (ad.add k).block = ad.block from by unfold Addr.add; split <;> rfl]; exact hab)).trans hcell)
        have hname' := (hbel.cell (p := ⟨nb a.name, 0, none⟩) hnb).trans hname
        have HO := Lib.hid hown
        have HAl := Lib.hid ha
        clear ha hown hcell hname
        go_wp2_with (at_builtin; refine wpList_append_own _ rfl _ _ 50 rfl w.heap.size 9 i0 (.string ByteArray.empty) 1 16 Tryz.underlying50 hi hz0 hz1 hz2 rfl (by decide) _ _ _ rfl (HO.out.alloc _) ⟨wr.heap.size, 0, none⟩ 1 1 [.string a.name] rfl rfl ?c1 ?c2 ?c3 ?c4 ?c5 ?_)
        case c1 => exact cell_one_new _ _ _
        case c2 => simp [Value.oneCell']
        case c3 => unfold maxLen; omega
        case c4 => omega
        case c5 => have := hbel.size; simp; omega
        intro v' w1 hown' hgrow _
        have hb1 : Below w.heap.size w w1 := (hbel.alloc hbel.size _).grown hgrow (by have := hbel.size; simp; omega) fun k' hk' => (HO.out.lt k' hk').1
        have HO1 := Lib.hid hown'
        clear hown' hgrow
        go_wp2
        go_roundw
        case rel => exact ⟨k + 1, by omega, by go_num, by
          have := HO1.out
          rw [namesV_take l k hlt, ← HAl.out]
          exact this, hb1⟩
        case measure => simp [intOf]; omega
      · go_wp2
        go_ret
        obtain rfl : k = l.length := by omega
        exact ⟨_, rfl, by simpa using hown, hbel⟩

set_option maxRecDepth 100000 in
theorem Kids_nil (cb mb : Nat) (name : ByteArray) (rv : Option Addr × Nat × Nat) (w : World) (hc1 : w.cell? ⟨cb, 1, none⟩ = some (.slice rv.1 rv.2.1 rv.2.2)) (hc0 : w.cell? ⟨cb, 0, none⟩ = some (.map (some mb)))
    (hne : name.toList.isEmpty = false) (hlk : Sem.run Tryz.prog (Instr.lookup 145 (.map (some mb)) (.string name) false) w = .ok (.pointer none) w) :
    Calls Tryz.prog 158 #[.pointer (some ⟨cb, 0, none⟩), .string name] w fun e w' => e = .returned (.slice none 0 0) ∧ w = w' := by
  go_enter Tryz.func158, Tryz.ntmps158
  go_wp2
  go_ret
  exact ⟨rfl, rfl⟩

/-- Whom Kids tells. -/
def kidsL (L : List Acct) (name : ByteArray) : List Acct :=
  if name.toList.isEmpty then rootsA L else match findA L name with
    | none => []
    | some a => kidsA L a.name

theorem own_slice' {w : World} {B e n : Nat} {v : Value} {xs : List Value} (h : w.ownsRow B e 1 v n xs) : ∃ A c, v = .slice A n c ∧ ∀ j u, xs[j]? = some u → ∃ ad, A = some ad ∧ ad.block < w.heap.size ∧ w.cell? (ad.add j) = some u := by
  rcases h.2 with ⟨rfl, rfl⟩ | ⟨g, cap, cur, rfl, hb, hg, r⟩
  · have hx : xs = [] := by simpa using h.1
    subst hx
    exact ⟨none, 0, rfl, fun j u hu => by simp at hu⟩
  · exact ⟨_, cap, rfl, fun j u hu => ⟨_, rfl, heap_lt hg, h.cells (g := g) rfl j u hu⟩⟩

theorem Kids_any {w : World} {F : Nat → Prop} {cb : Nat} {L : List Acct} (h : ChartAt w F cb L) (name : ByteArray) :
    Calls Tryz.prog 158 #[.pointer (some ⟨cb, 0, none⟩), .string name] w fun e w' => ∃ v, e = .returned v ∧ w'.ownsRow w.heap.size 9 1 v (kidsL L name).length (namesV (kidsL L name)) ∧ Below w.heap.size w w' := by
  obtain ⟨mb, rv, nb, kv, ps, h⟩ := h
  have hlk := h.lookup name
  have hc0 : w.cell? ⟨cb, 0, none⟩ = some (.map (some mb)) := by rw [cell_of_blk h.hC]; rfl
  have hc1 : w.cell? ⟨cb, 1, none⟩ = some rv := by rw [cell_of_blk h.hC]; rfl
  obtain ⟨Ar, cr, rfl, hrow⟩ := own_slice' h.hR
  have hsub : ∀ (l : List Acct), (∀ b ∈ l, b ∈ L) → ∀ j (hj : j < l.length), nb l[j].name < w.heap.size ∧ w.cell? ⟨nb l[j].name, 0, none⟩ = some (.string l[j].name) := fun l hl j hj => by
    have hm := h.hN _ (hl _ (List.getElem_mem hj))
    exact ⟨heap_lt hm, by rw [cell_of_blk hm]; rfl⟩
  have hle := h.le
  unfold kidsL
  by_cases he : name.toList.isEmpty = true
  · rw [if_pos he]
    refine Kids_list cb mb 0 name Ar cr (rootsA L) nb w ?_ ⟨(Ar, (rootsA L).length, cr), hc1, hc0, .inl ⟨he, rfl⟩⟩ ?_ (hsub _ fun b hb => (List.mem_filter.1 hb).1)
    · have := List.length_filter_le (fun a : Acct => decide (parentF a.name = none)) L
      unfold rootsA; omega
    · intro j hj
      exact hrow j _ (by simp [hj])
  · have he' : name.toList.isEmpty = false := by simpa using he
    rw [if_neg he]
    cases hf : findA L name with
    | none =>
      rw [hf] at hlk
      exact (Kids_nil cb mb name (Ar, _, cr) w hc1 hc0 he' hlk).mono fun e w' ⟨h1, h2⟩ => ⟨_, h1, by subst h2; exact World.ownsRow_nil _ _ _ _, by subst h2; exact Below.refl _ _⟩
    | some a =>
      rw [hf] at hlk
      obtain ⟨ha, rfl⟩ := findA_some hf
      obtain ⟨Ak, ck, hkv, hrk⟩ := own_slice' (h.hK a ha)
      refine Kids_list cb mb (nb a.name) a.name Ak ck (kidsA L a.name) nb w ?_ ⟨(Ar, _, cr), hc1, hc0, .inr ⟨he', hlk, ?_⟩⟩ ?_ (hsub _ fun b hb => (List.mem_filter.1 hb).1)
      · have := List.length_filter_le (fun b : Acct => decide (parentF b.name = some a.name)) L
        unfold kidsA; omega
      · rw [cell_of_blk (h.hN a ha), ← hkv]; rfl
      · intro j hj
        exact hrk j _ (by simp [hj])
end Go.Proofs.YtplocldnklccfaaGreatDoor
namespace Go.Proofs.YtplocldnklccfaaGreatDoor
open Go.RowKit
set_option linter.unusedVariables false
set_option linter.unusedSimpArgs false

def nodeCs (a : Acct) (v : Value) : Array Value := #[.string a.name, .int .i64 a.typ, .int .i64 a.opened, .bool a.closed, v]
def accCs (a : Acct) : Array Value := #[.string a.name, .int .i64 a.typ, .int .i64 a.opened, .bool a.closed]

structure AddEnd (ns : List ByteArray) (ps : List Value) (t : ByteArray) (p : Value) (W2 : World) (v : Value) (slot : Addr) (e : Ending) (w' : World) : Prop where
  ret : e = .returned (.tuple #[])
  ex : ∃ W3 w4 v', Below W2.heap.size W2 W3 ∧ PutPost ns ps t p W3 v (.returned v') w4 ∧ w' = w4.setCell slot v'

theorem PutPost.drew {ns : List ByteArray} {ps : List Value} {t : ByteArray} {p : Value} {W : World} {v : Value} {e : Ending} {w' : World} (h : PutPost ns ps t p W.drew v e w') : PutPost ns ps t p W v e w' := by
  obtain ⟨i, v', h1, h2, h3, h4, h5, h6, h7⟩ := h
  exact ⟨i, v', h1, h2, h3, h4, h5, ⟨h6.os, h6.tape, h6.output, h6.size, h6.block⟩, h7⟩

theorem keep_cell {w w' : World} {a : Addr} {v : Value} (h : w.cell? a = some v) (hb : w'.heap[a.block]? = w.heap[a.block]?) : w'.cell? a = some v := (World.cell?_of_block hb).trans h
theorem keep_frozen {w w' : World} {a : Addr} {v : Bool} (h : w.frozen? a = v) (hb : w'.heap[a.block]? = w.heap[a.block]?) : w'.frozen? a = v := (World.frozen?_of_block hb).trans h

set_option maxRecDepth 100000 in
set_option maxHeartbeats 1000000 in
theorem add_root (cb mb : Nat) (rv : Value) (a : Acct) (ns : List ByteArray) (ps : List Value) (w W2 : World) (hcl : cb < w.heap.size) (hsz : a.name.size ≤ 140737488355328)
    (hmu : Sem.run Tryz.prog (Instr.mapUpdate 145 (.map (some mb)) (.string a.name) (.pointer (some ⟨w.heap.size + 1, 0, none⟩))) ((w.alloc (.cells #[.string a.name, .int .i64 a.typ, .int .i64 a.opened, .bool a.closed] 159)).alloc (.cells #[.string a.name, .int .i64 a.typ, .int .i64 a.opened, .bool a.closed, .slice none 0 0] 236)).drew = .ok () W2)
    (hc0 : w.cell? ⟨cb, 0, none⟩ = some (.map (some mb))) (hcl2 : cb < W2.heap.size) (hal2 : w.heap.size < W2.heap.size)
    (hA : W2.cell? ⟨w.heap.size, 0, none⟩ = some (.string a.name)) (hc1 : W2.cell? ⟨cb, 1, none⟩ = some rv) (hf1 : W2.frozen? ⟨cb, 1, none⟩ = false) (hcr : rv.ownBlock ≠ some cb) (hr : ∃ A n c, rv = .slice A n c)
    (hpar : parentF a.name = none)
    (hput : ∀ W3, Below W2.heap.size W2 W3 → Calls Tryz.prog 247 #[rv, .pointer (some ⟨w.heap.size + 1, 0, none⟩)] W3 (PutPost ns ps a.name (.pointer (some ⟨w.heap.size + 1, 0, none⟩)) W3 rv)) :
    Calls Tryz.prog 210 #[.pointer (some ⟨cb, 0, none⟩), accV a] w (AddEnd ns ps a.name (.pointer (some ⟨w.heap.size + 1, 0, none⟩)) W2 rv ⟨cb, 1, none⟩) := by
  have hp := fun W => Parent_any a.name W hsz
  rw [hpar] at hp
  obtain ⟨rA, rn, rc, rfl⟩ := hr
  unfold accV
  go_enter Tryz.func210, Tryz.ntmps210
  go_wp2_with fail
  go_region
  clear hmu hc0
  go_wp2_with (go_at_call 10; refine (hp _).mono ?_; rintro e W3 ⟨rfl, hbel⟩; have hc1' := (hbel.cell (p := ⟨cb, 1, none⟩) hcl2).trans hc1; have hf1' := (hbel.frozen (p := ⟨cb, 1, none⟩) hcl2).trans hf1; have hcl3 := Nat.lt_of_lt_of_le hcl2 hbel.size; have hput' := hput W3 hbel; have HB := Lib.hid hbel; clear hbel hput hp hA hc1 hf1)
  refine hput'.mono ?_
  rintro e w4 hpp
  obtain ⟨i, v', h1, h2, h3, rfl, h5, h6, h7⟩ := hpp
  have hblk := h6.block cb hcl3 (fun e => hcr e.symm)
  have hc4 := keep_cell hc1' hblk
  have hf4 := keep_frozen hf1' hblk
  obtain ⟨vA, vc, rfl, _⟩ := own_slice2 h5
  have HPP : Hid (PutPost ns ps a.name (.pointer (some ⟨w.heap.size + 1, 0, none⟩)) W3 (.slice rA rn rc) (.returned (.slice vA (ns.length + 1) vc)) w4) := ⟨i, _, h1, h2, h3, rfl, h5, h6, h7⟩
  clear h1 h2 h3 h5 h6 h7 hblk hput' hc1' hf1'
  go_wp2_with fail
  go_end0
  exact ⟨rfl, W3, w4, _, HB.out, HPP.out, rfl⟩

set_option maxRecDepth 100000 in
set_option maxHeartbeats 4000000 in
theorem add_kid (cb mb pb : Nat) (kv : Value) (u : ByteArray) (a : Acct) (ns : List ByteArray) (ps : List Value) (w W2 : World) (hcl : cb < w.heap.size) (hsz : a.name.size ≤ 140737488355328)
    (hmu : Sem.run Tryz.prog (Instr.mapUpdate 145 (.map (some mb)) (.string a.name) (.pointer (some ⟨w.heap.size + 1, 0, none⟩))) ((w.alloc (.cells #[.string a.name, .int .i64 a.typ, .int .i64 a.opened, .bool a.closed] 159)).alloc (.cells #[.string a.name, .int .i64 a.typ, .int .i64 a.opened, .bool a.closed, .slice none 0 0] 236)).drew = .ok () W2)
    (hc0 : w.cell? ⟨cb, 0, none⟩ = some (.map (some mb))) (hcl2 : cb < W2.heap.size) (hal2 : w.heap.size < W2.heap.size) (hml2 : mb < W2.heap.size) (hpl2 : pb < W2.heap.size)
    (hA : W2.cell? ⟨w.heap.size, 0, none⟩ = some (.string a.name)) (hc02 : W2.cell? ⟨cb, 0, none⟩ = some (.map (some mb)))
    (hk2 : W2.cell? ⟨pb, 4, none⟩ = some kv) (hf2 : W2.frozen? ⟨pb, 4, none⟩ = false) (hck : kv.ownBlock ≠ some cb) (hmk : kv.ownBlock ≠ some mb) (hpk : kv.ownBlock ≠ some pb) (hr : ∃ A n c, kv = .slice A n c)
    (hpar : parentF a.name = some u)
    (hlk : ∀ W' : World, W'.heap[mb]? = W2.heap[mb]? → Sem.run Tryz.prog (Instr.lookup 145 (.map (some mb)) (.string u) false) W' = .ok (.pointer (some ⟨pb, 0, none⟩)) W')
    (hput : ∀ W3, Below W2.heap.size W2 W3 → Calls Tryz.prog 247 #[kv, .pointer (some ⟨w.heap.size + 1, 0, none⟩)] W3 (PutPost ns ps a.name (.pointer (some ⟨w.heap.size + 1, 0, none⟩)) W3 kv)) :
    Calls Tryz.prog 210 #[.pointer (some ⟨cb, 0, none⟩), accV a] w (AddEnd ns ps a.name (.pointer (some ⟨w.heap.size + 1, 0, none⟩)) W2 kv ⟨pb, 4, none⟩) := by
  have hp := fun W => Parent_any a.name W hsz
  rw [hpar] at hp
  obtain ⟨rA, rn, rc, rfl⟩ := hr
  have HLK := Lib.hid hlk
  have HPUT := Lib.hid hput
  clear hlk hput
  unfold accV
  go_enter Tryz.func210, Tryz.ntmps210
  go_wp2_with fail
  go_region
  clear hmu hc0
  go_wp2_with (go_at_call 10; refine (hp _).mono ?_; rintro e W3 ⟨rfl, hbel⟩; have HB := Lib.hid hbel; clear hbel)
  have hc3 : W3.drew.cell? ⟨cb, 0, none⟩ = some (.map (some mb)) := (HB.out.cell (p := ⟨cb, 0, none⟩) hcl2).trans hc02
  have hk3 : W3.drew.cell? ⟨pb, 4, none⟩ = some (.slice rA rn rc) := (HB.out.cell (p := ⟨pb, 4, none⟩) hpl2).trans hk2
  have hl3 := HLK.out W3.drew (HB.out.block mb hml2)
  have hput3 := HPUT.out W3.drew (HB.out.drew)
  have hcl3 := Nat.lt_of_lt_of_le hcl2 HB.out.size
  have hml3 := Nat.lt_of_lt_of_le hml2 HB.out.size
  have hpl3 := Nat.lt_of_lt_of_le hpl2 HB.out.size
  clear hA hc02 hk2 hp
  go_region_with (go_at_call 247; refine hput3.mono ?_; rintro e w4 ⟨i, v', h1, h2, h3, rfl, h5, h6, h7⟩; obtain ⟨vA, vc, rfl, _⟩ := own_slice2 h5; have hc4 := keep_cell hc3 (h6.block cb hcl3 (fun e => hck e.symm)); have hk4 := keep_cell hk3 (h6.block pb hpl3 (fun e => hpk e.symm)); have hf4 : w4.frozen? ⟨pb, 4, none⟩ = false := keep_frozen (keep_frozen hf2 (HB.out.block pb hpl2)) (h6.block pb hpl3 (fun e => hpk e.symm)); have hl4 := HLK.out w4 ((h6.block mb hml3 (fun e => hmk e.symm)).trans (HB.out.block mb hml2)); have HPP : Hid (PutPost ns ps a.name (.pointer (some ⟨w.heap.size + 1, 0, none⟩)) W3 (.slice rA rn rc) (.returned (.slice vA (ns.length + 1) vc)) w4) := PutPost.drew ⟨i, _, h1, h2, h3, rfl, h5, h6, h7⟩; clear h1 h2 h3 h5 h6 h7)
  all_goals
    go_wp2_with fail
    go_end0
    exact ⟨rfl, W3, w4, _, HB.out, HPP.out, rfl⟩
end Go.Proofs.YtplocldnklccfaaGreatDoor
namespace Go.Proofs.YtplocldnklccfaaGreatDoor
open Go.RowKit
set_option linter.unusedVariables false
set_option linter.unusedSimpArgs false

/-- What a call that changes a chart leaves. -/
structure MutPost (F : Nat → Prop) (cb : Nat) (L : List Acct) (v : Value) (w : World) (e : Ending) (w' : World) : Prop where
  ret : e = .returned v
  ex : ∃ F', ChartAt w' F' cb L ∧ Ch F w w' ∧ (∀ k, F' k → F k ∨ (w.heap.size ≤ k ∧ k < w'.heap.size))

/-- The pointers of a rising list with one more, where put has laid it. -/
theorem put_list (M : List Acct) (a : Acct) (nb : ByteArray → Nat) (b i : Nat) (hi : i ≤ M.length) (hM : ∀ x ∈ M, x.name ≠ a.name)
    (h1 : ∀ j (hj : j < (M.map (·.name)).length), j < i → cmpB (M.map (·.name))[j] a.name < 0) (h2 : ∀ j (hj : j < (M.map (·.name)).length), i ≤ j → 0 ≤ cmpB (M.map (·.name))[j] a.name) :
    ((M.map (·.name)).map fun s => ptrV (nb s)).take i ++ ptrV b :: ((M.map (·.name)).map fun s => ptrV (nb s)).drop i = (insA a M).map fun x => ptrV (if x.name = a.name then b else nb x.name) := by
  have hins := insA_at a M i hi (fun j hj hlt => by have := h1 j (by rw [List.length_map]; exact hj) hlt; rw [List.getElem_map] at this; exact this) (fun j hj hle => by have := h2 j (by rw [List.length_map]; exact hj) hle; rw [List.getElem_map] at this; exact this)
  rw [hins, List.map_append, List.map_cons, if_pos rfl, ← List.map_take, ← List.map_drop, ← List.map_take, ← List.map_drop, List.map_map, List.map_map]
  congr 1
  · apply List.map_congr_left
    intro x hx
    have := hM x (List.mem_of_mem_take hx)
    simp [this]
  · congr 1
    apply List.map_congr_left
    intro x hx
    have := hM x (List.mem_of_mem_drop hx)
    simp [this]

/-- What is known behind add, whichever list it went to: sb the block that holds the list's value, at place ix; M the list. -/
structure AddMem (w w' : World) (mb sb ix : Nat) (v : Value) (M : List Acct) (a : Acct) (nb : ByteArray → Nat) (o : Obj) : Prop where
  ex : ∃ v', w'.ownsRow 0 234 1 v' (insA a M).length ((insA a M).map fun x => ptrV (if x.name = a.name then w.heap.size + 1 else nb x.name)) ∧
    (v'.ownBlock = v.ownBlock ∨ ∃ k, v'.ownBlock = some k ∧ w.heap.size + 2 ≤ k) ∧
    (∀ k, k < w.heap.size → k ≠ mb → k ≠ sb → some k ≠ v.ownBlock → w'.heap[k]? = w.heap[k]?) ∧
    w'.heap[mb]? = some o ∧ w'.heap[w.heap.size + 1]? = some (.cells #[.string a.name, .int .i64 a.typ, .int .i64 a.opened, .bool a.closed, .slice none 0 0] 236 (0, 0)) ∧
    (∀ cs t, w.heap[sb]? = some (.cells cs t (0, 0)) → w'.heap[sb]? = some (.cells (cs.setIfInBounds ix v') t (0, 0))) ∧
    w'.os = w.os ∧ w'.tape = w.tape ∧ w'.output = w.output ∧ w.heap.size + 2 ≤ w'.heap.size

theorem add_mem (w W1 W2 : World) (mb sb ix : Nat) (v : Value) (M : List Acct) (a : Acct) (nb : ByteArray → Nat) (o : Obj) (e : Ending) (w' : World)
    (hW1 : W1 = ((w.alloc (.cells #[.string a.name, .int .i64 a.typ, .int .i64 a.opened, .bool a.closed] 159)).alloc (.cells #[.string a.name, .int .i64 a.typ, .int .i64 a.opened, .bool a.closed, .slice none 0 0] 236)).drew) (hW2 : W2 = W1.putObj mb o)
    (hm : mb < w.heap.size) (hs : sb < w.heap.size) (hms : mb ≠ sb) (hmv : some mb ≠ v.ownBlock) (hsv : some sb ≠ v.ownBlock) (hvl : ∀ k, v.ownBlock = some k → k < w.heap.size) (hM : ∀ x ∈ M, x.name ≠ a.name)
    (h : AddEnd (M.map (·.name)) ((M.map (·.name)).map fun s => .pointer (some ⟨nb s, 0, none⟩)) a.name (.pointer (some ⟨w.heap.size + 1, 0, none⟩)) W2 v ⟨sb, ix, none⟩ e w') :
    e = .returned (.tuple #[]) ∧ AddMem w w' mb sb ix v M a nb o := by
  obtain ⟨hret, W3, w4, v', hb, ⟨i, v'', hi, h1, h2, hv, hown, hg, hat⟩, hw'⟩ := h
  obtain rfl : v' = v'' := by injection hv
  have e2s : W2.heap.size = w.heap.size + 2 := by rw [hW2, hW1]; simp [World.putObj]
  have e1 : ∀ k, k < w.heap.size → W1.heap[k]? = w.heap[k]? := fun k hk => by
    rw [hW1]
    exact (Below.heap_alloc _ _ k (by simp; omega)).trans (Below.heap_alloc _ _ k hk)
  have e2 : ∀ k, k < w.heap.size → k ≠ mb → W2.heap[k]? = w.heap[k]? := fun k hk hkm => by
    rw [hW2, heap_putObj_other _ hkm]
    exact e1 k hk
  have e2m : W2.heap[mb]? = some o := by
    have hmb : mb < W1.heap.size := by rw [hW1]; simp; omega
    rw [hW2]
    simp [World.putObj, Array.getElem?_setIfInBounds, hmb]
  have e2n : W2.heap[w.heap.size + 1]? = some (.cells #[.string a.name, .int .i64 a.typ, .int .i64 a.opened, .bool a.closed, .slice none 0 0] 236 (0, 0)) := by
    rw [hW2, heap_putObj_other _ (by omega), hW1]
    have := heap_alloc_new (w.alloc (.cells #[.string a.name, .int .i64 a.typ, .int .i64 a.opened, .bool a.closed] 159)) (.cells #[.string a.name, .int .i64 a.typ, .int .i64 a.opened, .bool a.closed, .slice none 0 0] 236)
    rw [World.size_alloc] at this
    exact this
  have h3s := hb.size
  have h4 : ∀ k, k < W2.heap.size → some k ≠ v.ownBlock → w4.heap[k]? = W2.heap[k]? := fun k hk hkv => (hg.block k (by omega) hkv).trans (hb.block k hk)
  have h5 : ∀ k, k < W2.heap.size → some k ≠ v.ownBlock → k ≠ sb → w'.heap[k]? = W2.heap[k]? := fun k hk hkv hks => by
    rw [hw', Below.heap_setCell _ _ _ _ hks]
    exact h4 k hk hkv
  have hlt : ∀ k, w.heap.size ≤ k → some k ≠ v.ownBlock := fun k hk e => by have := hvl k e.symm; omega
  have hl : (M.map (·.name)).length = M.length := List.length_map _
  refine ⟨hret, v', ?_, ?_, ?_, ?_, ?_, ?_, ?_, ?_, ?_, ?_⟩
  · have hpl := put_list M a nb (w.heap.size + 1) i (by omega) hM h1 h2
    unfold ptrV at hpl
    rw [hpl] at hown
    rw [length_insA, ← hl]
    refine ownsRow_keep hown fun k hk => ?_
    rw [hw', Below.heap_setCell]
    intro e
    subst e
    rcases hat with h | ⟨j, h, hj⟩
    · exact hsv (hk.symm.trans h).symm.symm
    · rw [h] at hk; injection hk with hk; omega
  · rcases hat with h | ⟨j, h, hj⟩
    · exact .inl h
    · exact .inr ⟨j, h, by omega⟩
  · intro k hk hkm hks hkv
    rw [h5 k (by omega) hkv hks, e2 k hk hkm]
  · rw [h5 mb (by omega) hmv hms, e2m]
  · rw [h5 _ (by omega) (hlt _ (by omega)) (by omega), e2n]
  · intro cs t hcs
    rw [hw']
    refine heap_setCell_same ?_ v'
    rw [h4 sb (by omega) hsv, e2 sb hs hms.symm, hcs]
  · rw [hw']; show w4.os = _; rw [hg.os, hb.os, hW2, hW1]; rfl
  · rw [hw']; show w4.tape = _; rw [hg.tape, hb.tape, hW2, hW1]; rfl
  · rw [hw']; show w4.output = _; rw [hg.output, hb.output, hW2, hW1]; rfl
  · have := hg.size
    rw [hw']; simp only [World.size_setCell]; omega
end Go.Proofs.YtplocldnklccfaaGreatDoor
namespace Go.Proofs.YtplocldnklccfaaGreatDoor
open Go.RowKit
set_option linter.unusedVariables false
set_option linter.unusedSimpArgs false

/-- An account may be laid into a list: nothing of its name is there, its parent is. -/
structure CanAdd (L : List Acct) (a : Acct) : Prop where
  rising : Rising L
  none_ : findA L a.name = none
  room : L.length ≤ 99
  up : ∀ u, parentF a.name = some u → ∃ p ∈ L, p.name = u
  nokid : ∀ b ∈ L, parentF b.name ≠ some a.name
  self : parentF a.name ≠ some a.name
  size : a.name.size ≤ 140737488355328

theorem CR.cb_mb {w : World} {F : Nat → Prop} {cb mb : Nat} {L : List Acct} {rv : Value} {nb : ByteArray → Nat} {kv : ByteArray → Value} {ps : List (ByteArray × Value)}
    (h : CR w F cb L mb rv nb kv ps) : cb ≠ mb := by
  intro e
  obtain ⟨es, c, h1, _⟩ := h.hM
  have := h.hC
  rw [e, h1] at this
  injection this with this
  cases this
theorem CR.nb_mb {w : World} {F : Nat → Prop} {cb mb : Nat} {L : List Acct} {rv : Value} {nb : ByteArray → Nat} {kv : ByteArray → Value} {ps : List (ByteArray × Value)}
    (h : CR w F cb L mb rv nb kv ps) {a : Acct} (ha : a ∈ L) : nb a.name ≠ mb := by
  intro e
  obtain ⟨es, c, h1, _⟩ := h.hM
  have := h.hN a ha
  rw [e, h1] at this
  injection this with this
  cases this
theorem CR.cb_nb {w : World} {F : Nat → Prop} {cb mb : Nat} {L : List Acct} {rv : Value} {nb : ByteArray → Nat} {kv : ByteArray → Value} {ps : List (ByteArray × Value)}
    (h : CR w F cb L mb rv nb kv ps) {a : Acct} (ha : a ∈ L) : cb ≠ nb a.name := by
  intro e
  have h1 := h.hN a ha
  have := h.hC
  rw [e, h1] at this
  injection this with this
  injection this with this
  have := congrArg Array.size this
  simp at this

/-- A row's block is of its element's type. -/
theorem own_ne {w : World} {B e size n b : Nat} {v : Value} {xs : List Value} {t : TypeId} {cs : Array Value} (h : w.ownsRow B e size v n xs) (hb : w.heap[b]? = some (.cells cs t (0, 0))) (ht : t ≠ e) : v.ownBlock ≠ some b := by
  rcases h.2 with ⟨rfl, _⟩ | ⟨g, cap, cur, rfl, _, hg, _⟩
  · simp [Value.ownBlock]
  · intro e1
    simp [Value.ownBlock] at e1
    subst e1
    rw [hg] at hb
    injection hb with hb
    injection hb with h1 h2 h3
    exact ht h2.symm
theorem own_ne_map {w : World} {B e size n b : Nat} {v : Value} {xs : List Value} {ps : List (ByteArray × Value)} (h : w.ownsRow B e size v n xs) (hb : StrMap w b ps) : v.ownBlock ≠ some b := by
  obtain ⟨es, c, hb, _⟩ := hb
  rcases h.2 with ⟨rfl, _⟩ | ⟨g, cap, cur, rfl, _, hg, _⟩
  · simp [Value.ownBlock]
  · intro e1
    simp [Value.ownBlock] at e1
    subst e1
    rw [hg] at hb
    injection hb with hb
    cases hb

theorem kids_insA {L : List Acct} (hr : Rising L) (a : Acct) (n : ByteArray) : kidsA (insA a L) n = if parentF a.name = some n then insA a (kidsA L n) else kidsA L n := by
  unfold kidsA
  rw [filter_insA _ a L hr]
  simp
theorem roots_insA {L : List Acct} (hr : Rising L) (a : Acct) : rootsA (insA a L) = if parentF a.name = none then insA a (rootsA L) else rootsA L := by
  unfold rootsA
  rw [filter_insA _ a L hr]
  simp

/-- Where names are not the new one's, the pointers stay. -/
theorem ptrs_same (l : List Acct) (a : Acct) (nb : ByteArray → Nat) (b : Nat) (h : ∀ x ∈ l, x.name ≠ a.name) :
    (l.map fun x => ptrV (if x.name = a.name then b else nb x.name)) = l.map fun x => ptrV (nb x.name) :=
  List.map_congr_left fun x hx => by rw [if_neg (h x hx)]

theorem CR.add_root {w w' : World} {F : Nat → Prop} {cb mb : Nat} {L : List Acct} {rv : Value} {nb : ByteArray → Nat} {kv : ByteArray → Value} {ps : List (ByteArray × Value)}
    (h : CR w F cb L mb rv nb kv ps) {a : Acct} (ha : CanAdd L a) (hp : parentF a.name = none) {o : Obj} (ho : ∀ x : World, x.heap[mb]? = some o → StrMap x mb (ps ++ [(a.name, ptrV (w.heap.size + 1))]))
    (hm : AddMem w w' mb cb 1 rv (rootsA L) a nb o) : MutPost F cb (insA a L) (.tuple #[]) w (.returned (.tuple #[])) w' := by
  obtain ⟨v', hown, hat, hblk, hmb, hnew, hset, hos, htape, hout, hsz⟩ := hm
  have hne : ∀ b ∈ L, b.name ≠ a.name := find_none ha.none_
  have hK' : ∀ b ∈ L, kidsA (insA a L) b.name = kidsA L b.name := fun b hb => by rw [kids_insA ha.rising, hp]; simp
  have hKa : kidsA (insA a L) a.name = [] := by
    rw [kids_insA ha.rising, hp]
    simp only [reduceCtorEq, if_false]
    unfold kidsA
    rw [List.filter_eq_nil_iff]
    intro b hb
    simpa using ha.nokid b hb
  have nK : ∀ b ∈ L, ∀ k, (kv b.name).ownBlock = some k → w'.heap[k]? = w.heap[k]? := fun b hb k hk => by
    refine hblk k ((h.hK b hb).lt k hk).2 (fun e => own_ne_map (h.hK b hb) h.hM (by rw [hk, e])) (fun e => own_ne (h.hK b hb) h.hC (by decide) (by rw [hk, e])) (fun e => h.dR b hb k hk e.symm)
  have ltK : ∀ b ∈ L, ∀ k, (kv b.name).ownBlock = some k → k < w.heap.size := fun b hb k hk => ((h.hK b hb).lt k hk).2
  have ltR : ∀ k, rv.ownBlock = some k → k < w.heap.size := fun k hk => (h.hR.lt k hk).2
  refine ⟨rfl, fun k => F k ∨ (w.heap.size ≤ k ∧ k < w'.heap.size), ⟨mb, v', fun n => if n = a.name then w.heap.size + 1 else nb n, fun n => if n = a.name then .slice none 0 0 else kv n, ps ++ [(a.name, ptrV (w.heap.size + 1))], ?_⟩, ?_, fun _ h => h⟩
  · refine { hC := hset _ _ h.hC, hM := ho _ hmb, hps := ?_, hlen := by simp [length_insA, h.hlen], le := by rw [length_insA]; have := ha.room; omega, hN := ?_, hK := ?_, hR := ?_, fC := .inl h.fC, fM := .inl h.fM, fN := ?_, fK := ?_, fR := ?_, inj := ?_, dK := ?_, dR := ?_ }
    · intro k
      rw [getP_append, h.hps k, find_insA hne]
      by_cases hk : a.name = k
      · subst hk
        simp [ha.none_, getP]
      · simp only [if_neg hk, getP, if_neg (Ne.symm hk), Option.or_none]
        cases hf : findA L k with
        | none => rfl
        | some b =>
          have := hne b (findA_some hf).1
          simp [this]
    · intro b hb
      rcases mem_insA.1 hb with rfl | hb
      · simpa using hnew
      · rw [if_neg (hne b hb), if_neg (hne b hb)]
        have hn := h.hN b hb
        rw [hblk _ (heap_lt hn) (h.nb_mb hb) (Ne.symm (h.cb_nb hb)) (fun e => own_ne h.hR hn (by decide) e.symm)]
        exact hn
    · intro b hb
      rcases mem_insA.1 hb with rfl | hb
      · rw [if_pos rfl, hKa]
        exact World.ownsRow_nil _ _ _ _
      · rw [if_neg (hne b hb), hK' b hb, ptrs_same (kidsA L b.name) a nb _ fun x hx => hne x (List.mem_filter.1 hx).1]
        exact ownsRow_keep (h.hK b hb) (nK b hb)
    · rw [roots_insA ha.rising, if_pos hp]
      exact hown
    · intro b hb
      rcases mem_insA.1 hb with rfl | hb
      · rw [if_pos rfl]; right; omega
      · rw [if_neg (hne b hb)]; exact .inl (h.fN b hb)
    · intro b hb k hk
      rcases mem_insA.1 hb with rfl | hb
      · simp [Value.ownBlock] at hk
      · rw [if_neg (hne b hb)] at hk; exact .inl (h.fK b hb k hk)
    · intro k hk
      rcases hat with e | ⟨j, e, hj⟩
      · exact .inl (h.fR k (e ▸ hk))
      · right
        have := (hown.lt k hk).2
        rw [e] at hk; injection hk with hk
        omega
    · intro b hb c hc
      replace hb := mem_insA.1 hb
      replace hc := mem_insA.1 hc
      rcases hb with rfl | hb <;> rcases hc with rfl | hc
      · intro _; rfl
      · rw [if_pos rfl, if_neg (hne c hc)]
        intro e; have := heap_lt (h.hN c hc); omega
      · rw [if_pos rfl, if_neg (hne b hb)]
        intro e; have := heap_lt (h.hN b hb); omega
      · rw [if_neg (hne b hb), if_neg (hne c hc)]
        exact h.inj b hb c hc
    · intro b hb c hc hbc k hk
      replace hb := mem_insA.1 hb
      replace hc := mem_insA.1 hc
      rcases hb with rfl | hb <;> rcases hc with rfl | hc
      · exact absurd rfl hbc
      · simp [Value.ownBlock] at hk
      · rw [if_pos rfl]; simp [Value.ownBlock]
      · rw [if_neg (hne b hb)] at hk
        rw [if_neg (hne c hc)]
        exact h.dK b hb c hc hbc k hk
    · intro b hb k hk
      rcases mem_insA.1 hb with rfl | hb
      · simp [Value.ownBlock] at hk
      · rw [if_neg (hne b hb)] at hk
        rcases hat with e | ⟨j, e, hj⟩
        · rw [e]; exact h.dR b hb k hk
        · rw [e]; have := ltK b hb k hk
          intro e; injection e with e; omega
  · refine ⟨hos, htape, hout, by omega, fun k hk hn => hblk k hk (fun e => hn (e ▸ h.fM)) (fun e => hn (e ▸ h.fC)) (fun e => hn (h.fR k e.symm))⟩

theorem CR.add_kid {w w' : World} {F : Nat → Prop} {cb mb : Nat} {L : List Acct} {rv : Value} {nb : ByteArray → Nat} {kv : ByteArray → Value} {ps : List (ByteArray × Value)}
    (h : CR w F cb L mb rv nb kv ps) {a p : Acct} (ha : CanAdd L a) (hpL : p ∈ L) (hp : parentF a.name = some p.name) {o : Obj} (ho : ∀ x : World, x.heap[mb]? = some o → StrMap x mb (ps ++ [(a.name, ptrV (w.heap.size + 1))]))
    (hm : AddMem w w' mb (nb p.name) 4 (kv p.name) (kidsA L p.name) a nb o) : MutPost F cb (insA a L) (.tuple #[]) w (.returned (.tuple #[])) w' := by
  obtain ⟨v', hown, hat, hblk, hmb, hnew, hset, hos, htape, hout, hsz⟩ := hm
  have hne : ∀ b ∈ L, b.name ≠ a.name := find_none ha.none_
  have hpa : p.name ≠ a.name := hne p hpL
  have hK' : ∀ b ∈ L, b.name ≠ p.name → kidsA (insA a L) b.name = kidsA L b.name := fun b hb hbp => by rw [kids_insA ha.rising, hp, if_neg]; intro e; injection e with e; exact hbp e.symm
  have hKp : kidsA (insA a L) p.name = insA a (kidsA L p.name) := by rw [kids_insA ha.rising, if_pos hp]
  have hKa : kidsA (insA a L) a.name = [] := by
    rw [kids_insA ha.rising, if_neg ha.self]
    unfold kidsA
    rw [List.filter_eq_nil_iff]
    intro b hb
    simpa using ha.nokid b hb
  have nK : ∀ b ∈ L, b.name ≠ p.name → ∀ k, (kv b.name).ownBlock = some k → w'.heap[k]? = w.heap[k]? := fun b hb hbp k hk => by
    refine hblk k ((h.hK b hb).lt k hk).2 (fun e => own_ne_map (h.hK b hb) h.hM (by rw [hk, e])) (fun e => own_ne (h.hK b hb) (h.hN p hpL) (by decide) (by rw [hk, e])) (fun e => h.dK b hb p hpL hbp k hk e.symm)
  have ltK : ∀ b ∈ L, ∀ k, (kv b.name).ownBlock = some k → k < w.heap.size := fun b hb k hk => ((h.hK b hb).lt k hk).2
  have ltR : ∀ k, rv.ownBlock = some k → k < w.heap.size := fun k hk => (h.hR.lt k hk).2
  have nR : ∀ k, rv.ownBlock = some k → w'.heap[k]? = w.heap[k]? := fun k hk => by
    refine hblk k (ltR k hk) (fun e => own_ne_map h.hR h.hM (by rw [hk, e])) (fun e => own_ne h.hR (h.hN p hpL) (by decide) (by rw [hk, e])) (fun e => h.dR p hpL k e.symm hk)
  refine ⟨rfl, fun k => F k ∨ (w.heap.size ≤ k ∧ k < w'.heap.size), ⟨mb, rv, fun n => if n = a.name then w.heap.size + 1 else nb n, fun n => if n = a.name then .slice none 0 0 else if n = p.name then v' else kv n, ps ++ [(a.name, ptrV (w.heap.size + 1))], ?_⟩, ?_, fun _ h => h⟩
  · refine { hC := ?_, hM := ho _ hmb, hps := ?_, hlen := by simp [length_insA, h.hlen], le := by rw [length_insA]; have := ha.room; omega, hN := ?_, hK := ?_, hR := ?_, fC := .inl h.fC, fM := .inl h.fM, fN := ?_, fK := ?_, fR := ?_, inj := ?_, dK := ?_, dR := ?_ }
    · rw [hblk cb (heap_lt h.hC) h.cb_mb (h.cb_nb hpL) (fun e => own_ne (h.hK p hpL) h.hC (by decide) e.symm)]
      exact h.hC
    · intro k
      rw [getP_append, h.hps k, find_insA hne]
      by_cases hk : a.name = k
      · subst hk
        simp [ha.none_, getP]
      · simp only [if_neg hk, getP, if_neg (Ne.symm hk), Option.or_none]
        cases hf : findA L k with
        | none => rfl
        | some b =>
          have := hne b (findA_some hf).1
          simp [this]
    · intro b hb
      rcases mem_insA.1 hb with rfl | hb
      · simpa using hnew
      · have hn := h.hN b hb
        rw [if_neg (hne b hb), if_neg (hne b hb)]
        by_cases hbp : b.name = p.name
        · rw [if_pos hbp]
          have hbn : nb b.name = nb p.name := by rw [hbp]
          rw [hbn] at hn ⊢
          exact hset _ _ hn
        · rw [if_neg hbp, hblk _ (heap_lt hn) (h.nb_mb hb) (fun e => hbp (h.inj b hb p hpL e)) (fun e => own_ne (h.hK p hpL) hn (by decide) e.symm)]
          exact hn
    · intro b hb
      rcases mem_insA.1 hb with rfl | hb
      · rw [if_pos rfl, hKa]
        exact World.ownsRow_nil _ _ _ _
      · rw [if_neg (hne b hb)]
        by_cases hbp : b.name = p.name
        · rw [if_pos hbp, hbp, hKp]
          exact hown
        · rw [if_neg hbp, hK' b hb hbp, ptrs_same (kidsA L b.name) a nb _ fun x hx => hne x (List.mem_filter.1 hx).1]
          exact ownsRow_keep (h.hK b hb) (nK b hb hbp)
    · rw [roots_insA ha.rising, hp]
      simp only [reduceCtorEq, if_false]
      rw [ptrs_same (rootsA L) a nb _ fun x hx => hne x (List.mem_filter.1 hx).1]
      exact ownsRow_keep h.hR nR
    · intro b hb
      rcases mem_insA.1 hb with rfl | hb
      · rw [if_pos rfl]; right; omega
      · rw [if_neg (hne b hb)]; exact .inl (h.fN b hb)
    · intro b hb k hk
      rcases mem_insA.1 hb with rfl | hb
      · simp [Value.ownBlock] at hk
      · rw [if_neg (hne b hb)] at hk
        by_cases hbp : b.name = p.name
        · rw [if_pos hbp] at hk
          rcases hat with e | ⟨j, e, hj⟩
          · exact .inl (h.fK p hpL k (e ▸ hk))
          · right
            have := (hown.lt k hk).2
            rw [e] at hk; injection hk with hk
            omega
        · rw [if_neg hbp] at hk; exact .inl (h.fK b hb k hk)
    · intro k hk; exact .inl (h.fR k hk)
    · intro b hb c hc
      replace hb := mem_insA.1 hb
      replace hc := mem_insA.1 hc
      rcases hb with rfl | hb <;> rcases hc with rfl | hc
      · intro _; rfl
      · rw [if_pos rfl, if_neg (hne c hc)]
        intro e; have := heap_lt (h.hN c hc); omega
      · rw [if_pos rfl, if_neg (hne b hb)]
        intro e; have := heap_lt (h.hN b hb); omega
      · rw [if_neg (hne b hb), if_neg (hne c hc)]
        exact h.inj b hb c hc
    · intro b hb c hc hbc k hk
      replace hb := mem_insA.1 hb
      replace hc := mem_insA.1 hc
      rcases hb with rfl | hb <;> rcases hc with rfl | hc
      · exact absurd rfl hbc
      · simp [Value.ownBlock] at hk
      · rw [if_pos rfl]; simp [Value.ownBlock]
      · rw [if_neg (hne b hb)] at hk
        rw [if_neg (hne c hc)]
        by_cases hbp : b.name = p.name
        · have hcp : c.name ≠ p.name := fun e => hbc (by rw [hbp, e])
          rw [if_pos hbp] at hk
          rw [if_neg hcp]
          rcases hat with e | ⟨j, e, hj⟩
          · exact h.dK p hpL c hc (Ne.symm hcp) k (e ▸ hk)
          · rw [e] at hk; injection hk with hk
            intro e1
            have := ltK c hc k e1
            omega
        · rw [if_neg hbp] at hk
          by_cases hcp : c.name = p.name
          · rw [if_pos hcp]
            rcases hat with e | ⟨j, e, hj⟩
            · rw [e]; exact h.dK b hb p hpL hbp k hk
            · rw [e]
              have := ltK b hb k hk
              intro e1; injection e1 with e1; omega
          · rw [if_neg hcp]; exact h.dK b hb c hc hbc k hk
    · intro b hb k hk
      rcases mem_insA.1 hb with rfl | hb
      · simp [Value.ownBlock] at hk
      · rw [if_neg (hne b hb)] at hk
        by_cases hbp : b.name = p.name
        · rw [if_pos hbp] at hk
          rcases hat with e | ⟨j, e, hj⟩
          · exact h.dR p hpL k (e ▸ hk)
          · rw [e] at hk; injection hk with hk
            intro e1
            have := ltR k e1
            omega
        · rw [if_neg hbp] at hk; exact h.dR b hb k hk
  · refine ⟨hos, htape, hout, by omega, fun k hk hn => hblk k hk (fun e => hn (e ▸ h.fM)) (fun e => hn (e ▸ h.fN p hpL)) (fun e => hn (h.fK p hpL k e.symm))⟩
end Go.Proofs.YtplocldnklccfaaGreatDoor
namespace Go.Proofs.YtplocldnklccfaaGreatDoor
open Go.RowKit
set_option linter.unusedVariables false
set_option linter.unusedSimpArgs false

instance : DecidableEq Acct := fun a b =>
  decidable_of_iff (a.name = b.name ∧ a.typ = b.typ ∧ a.opened = b.opened ∧ a.closed = b.closed)
    ⟨fun h => by cases a; cases b; simp only at h; obtain ⟨h1, h2, h3, h4⟩ := h; subst h1 h2 h3 h4; rfl, fun h => by subst h; exact ⟨rfl, rfl, rfl, rfl⟩⟩

theorem good_size {n : ByteArray} (h : goodB n.data.toList = true) : n.size ≤ 102 := by
  unfold goodB at h
  simp only [Bool.and_eq_true, decide_eq_true_eq] at h
  have := h.1
  rwa [show n.data.toList.length = n.size from rfl] at this

theorem parent_some {n u : ByteArray} (h : parentF n = some u) : goodB n.data.toList = true ∧ ∃ i : Nat, i < n.size ∧ u = n.extract 0 i ∧ Lib.lastIndexByte n 58 = i := by
  unfold parentF at h
  split at h
  · rename_i hc
    refine ⟨hc.1, ?_⟩
    rcases Lib.lastIndexByte_spec n 58 with ⟨e, _⟩ | ⟨i, hi, e, _⟩
    · rw [e] at hc; omega
    · refine ⟨i, hi, ?_, e⟩
      rw [e] at h
      injection h with h
      exact h.symm
  · cases h

theorem extract0_list (n : ByteArray) (i : Nat) : (n.extract 0 i).data.toList = n.data.toList.take i := by
  rw [ByteArray.data_extract, Array.toList_extract]
  simp [List.extract]

theorem extract0_size (n : ByteArray) (i : Nat) (h : i ≤ n.size) : (n.extract 0 i).size = i := by
  rw [ByteArray.size_extract]
  omega

theorem parent_size {n u : ByteArray} (h : parentF n = some u) : u.size < n.size := by
  obtain ⟨_, i, hi, rfl, _⟩ := parent_some h
  rw [extract0_size n i (by omega)]
  exact hi

theorem cmpL_take : ∀ (l : List UInt8) (i : Nat), i < l.length → Lib.compareBytes (l.take i) l < 0
  | [], _, h => by simp at h
  | a :: r, 0, _ => by simp [Lib.compareBytes]
  | a :: r, i + 1, h => by
    have ih := cmpL_take r i (by simpa using h)
    simp only [List.take_succ_cons]
    unfold Lib.compareBytes
    simp [ih]

theorem parent_below {n u : ByteArray} (h : parentF n = some u) : cmpB u n < 0 := by
  obtain ⟨_, i, hi, rfl, _⟩ := parent_some h
  unfold cmpB
  rw [extract0_list]
  exact cmpL_take _ _ (by rw [show n.data.toList.length = n.size from rfl]; exact hi)

/-- What a list of a chart's accounts is. -/
structure Valid (L : List Acct) : Prop where
  rising : Rising L
  le : L.length ≤ 100
  good : ∀ a ∈ L, goodB a.name.data.toList = true
  up : ∀ a ∈ L, ∀ u, parentF a.name = some u → ∃ p ∈ L, p.name = u ∧ p.typ = a.typ ∧ p.opened ≤ a.opened ∧ (p.closed = true → a.closed = true)
  day : ∀ a ∈ L, 1 ≤ a.opened ∧ a.opened ≤ 3652059
  typ : ∀ a ∈ L, 1 ≤ a.typ ∧ a.typ ≤ 5

theorem valid_nil : Valid [] := ⟨List.Pairwise.nil, by simp, by simp, by simp, by simp, by simp⟩

theorem Valid.size {L : List Acct} (h : Valid L) {a : Acct} (ha : a ∈ L) : a.name.size ≤ 102 := good_size (h.good a ha)

theorem Rising.inj {L : List Acct} (h : Rising L) {a b : Acct} (ha : a ∈ L) (hb : b ∈ L) (hn : a.name = b.name) : a = b := by
  have h1 := find_mem h ha
  have h2 := find_mem h hb
  rw [hn, h2] at h1
  injection h1 with h1
  exact h1.symm

theorem Rising.nodup {L : List Acct} (h : Rising L) : L.Nodup := by
  refine List.Pairwise.imp ?_ h
  intro a b hab e
  subst e
  rw [cmp_self] at hab
  omega

/-- What may be laid into a valid list. -/
structure Fits (L : List Acct) (a : Acct) : Prop where
  none_ : findA L a.name = none
  room : L.length ≤ 99
  good : goodB a.name.data.toList = true
  up : ∀ u, parentF a.name = some u → ∃ p ∈ L, p.name = u ∧ p.typ = a.typ ∧ p.opened ≤ a.opened ∧ (p.closed = true → a.closed = true)
  day : 1 ≤ a.opened ∧ a.opened ≤ 3652059
  typ : 1 ≤ a.typ ∧ a.typ ≤ 5

theorem Fits.can {L : List Acct} {a : Acct} (h : Fits L a) (hv : Valid L) : CanAdd L a where
  rising := hv.rising
  none_ := h.none_
  room := h.room
  up := fun u hu => by obtain ⟨p, hp, e, _⟩ := h.up u hu; exact ⟨p, hp, e⟩
  nokid := fun b hb e => by
    obtain ⟨p, hp, e2, _⟩ := hv.up b hb _ e
    exact find_none h.none_ p hp e2
  self := fun e => by have := parent_size e; omega
  size := by have := good_size h.good; omega

theorem Fits.valid {L : List Acct} {a : Acct} (h : Fits L a) (hv : Valid L) : Valid (insA a L) where
  rising := rising_insA hv.rising (find_none h.none_)
  le := by rw [length_insA]; have := h.room; omega
  good := fun b hb => by rcases mem_insA.1 hb with rfl | hb; exact h.good; exact hv.good b hb
  up := fun b hb u hu => by
    rcases mem_insA.1 hb with rfl | hb
    · obtain ⟨p, hp, e⟩ := h.up u hu
      exact ⟨p, mem_insA.2 (.inr hp), e⟩
    · obtain ⟨p, hp, e⟩ := hv.up b hb u hu
      exact ⟨p, mem_insA.2 (.inr hp), e⟩
  day := fun b hb => by rcases mem_insA.1 hb with rfl | hb; exact h.day; exact hv.day b hb
  typ := fun b hb => by rcases mem_insA.1 hb with rfl | hb; exact h.typ; exact hv.typ b hb

/-- All that is below a list of accounts, and they. -/
def flatA (L l : List Acct) : List Acct := preL L 103 l

theorem preL_sub {L : List Acct} : ∀ (d : Nat) (l : List Acct), (∀ a ∈ l, a ∈ L) → ∀ x ∈ preL L d l, x ∈ L
  | 0, l, _, x, hx => by simp [preL] at hx
  | d + 1, l, hl, x, hx => by
    obtain ⟨a, ha, hx⟩ := List.mem_flatMap.1 hx
    rcases List.mem_cons.1 hx with rfl | hx
    · exact hl _ ha
    · exact preL_sub d _ (fun b hb => (List.mem_filter.1 hb).1) x hx

theorem nodup_filter {L : List Acct} (p : Acct → Bool) (h : L.Nodup) : (L.filter p).Nodup := List.Pairwise.filter p h

theorem Valid.kid {L : List Acct} (h : Valid L) : ∀ a ∈ L, ∀ b ∈ kidsA L a.name, a.name.size < b.name.size := fun a _ b hb => by
  have := (List.mem_filter.1 hb).2
  exact parent_size (by simpa using this)

theorem count_kids {L : List Acct} (h : Valid L) {x a : Acct} (hx : x ∈ L) (ha : a ∈ L) : (kidsA L a.name).count x = if parentF x.name = some a.name then 1 else 0 := by
  unfold kidsA
  rw [(nodup_filter _ h.rising.nodup).count]
  simp [hx]

/-- How often an account is told: as often as the list holds it, and as often as its parent is told. -/
theorem count_preL {L : List Acct} (h : Valid L) {x p : Acct} (hx : x ∈ L) (hp : p ∈ L) (hu : parentF x.name = some p.name) :
    ∀ (d : Nat) (l : List Acct), (∀ a ∈ l, a ∈ L) → (∀ a ∈ l, 102 < a.name.size + d) → (preL L d l).count x = l.count x + (preL L d l).count p
  | 0, l, hl, hB => by
    cases l with
    | nil => rfl
    | cons a r =>
      have h1 := hB a (by simp)
      have h2 := h.size (hl a (by simp))
      omega
  | d + 1, [], hl, hB => rfl
  | d + 1, a :: r, hl, hB => by
    have ih := count_preL h hx hp hu (d + 1) r (fun b hb => hl b (by simp [hb])) (fun b hb => hB b (by simp [hb]))
    have haL := hl a (by simp)
    have ihk := count_preL h hx hp hu d (kidsA L a.name) (fun b hb => (List.mem_filter.1 hb).1) fun b hb => by
      have h1 := hB a (by simp)
      have h2 := h.kid a haL b hb
      omega
    have e : preL L (d + 1) (a :: r) = a :: (preL L d (kidsA L a.name) ++ preL L (d + 1) r) := by
      show ((a :: r).flatMap fun a => a :: preL L d (kidsA L a.name)) = _
      rw [List.flatMap_cons]
      rfl
    rw [e, List.count_cons, List.count_append, List.count_cons, List.count_cons, List.count_append, ih, ihk, count_kids h hx haL]
    have hpa : parentF x.name = some a.name ↔ a = p := by
      rw [hu]
      constructor
      · intro e; injection e with e; exact h.rising.inj haL hp e.symm
      · rintro rfl; rfl
    by_cases hap : a = p
    · subst hap
      have : parentF x.name = some a.name := hu
      simp [this]
      omega
    · have hn : ¬ parentF x.name = some a.name := fun e => hap (hpa.1 e)
      rw [if_neg hn]
      have : (a == p) = false := by simpa using hap
      rw [this]
      simp
      omega

theorem count_root {L : List Acct} (h : Valid L) {x : Acct} (hx : x ∈ L) (hu : parentF x.name = none) :
    ∀ (d : Nat) (l : List Acct), (∀ a ∈ l, a ∈ L) → (∀ a ∈ l, 102 < a.name.size + d) → (preL L d l).count x = l.count x
  | 0, l, hl, hB => by
    cases l with
    | nil => rfl
    | cons a r =>
      have h1 := hB a (by simp)
      have h2 := h.size (hl a (by simp))
      omega
  | d + 1, [], hl, hB => rfl
  | d + 1, a :: r, hl, hB => by
    have ih := count_root h hx hu (d + 1) r (fun b hb => hl b (by simp [hb])) (fun b hb => hB b (by simp [hb]))
    have haL := hl a (by simp)
    have ihk := count_root h hx hu d (kidsA L a.name) (fun b hb => (List.mem_filter.1 hb).1) fun b hb => by
      have h1 := hB a (by simp)
      have h2 := h.kid a haL b hb
      omega
    have e : preL L (d + 1) (a :: r) = a :: (preL L d (kidsA L a.name) ++ preL L (d + 1) r) := by
      show ((a :: r).flatMap fun a => a :: preL L d (kidsA L a.name)) = _
      rw [List.flatMap_cons]
      rfl
    rw [e, List.count_cons, List.count_append, List.count_cons, ih, ihk, count_kids h hx haL, hu]
    simp

/-- From the roots on every account is told once. -/
theorem flat_perm {L : List Acct} (h : Valid L) : (flatA L (rootsA L)).Perm L := by
  have hroot : ∀ a ∈ rootsA L, a ∈ L := fun a ha => (List.mem_filter.1 ha).1
  have hB : ∀ a ∈ rootsA L, 102 < a.name.size + 103 := fun a _ => by omega
  rw [List.perm_iff_count]
  intro x
  by_cases hx : x ∈ L
  · rw [h.rising.nodup.count, if_pos hx]
    have key : ∀ n (x : Acct), x ∈ L → x.name.size = n → (flatA L (rootsA L)).count x = 1 := by
      intro n
      induction n using Nat.strongRecOn with
      | _ n ih =>
        intro x hx hn
        cases hu : parentF x.name with
        | none =>
          unfold flatA
          rw [count_root h hx hu 103 _ hroot hB]
          unfold rootsA
          rw [(nodup_filter _ h.rising.nodup).count]
          simp [hx, hu]
        | some u =>
          obtain ⟨p, hp, rfl, _⟩ := h.up x hx u hu
          have hlt := parent_size hu
          have := ih p.name.size (by omega) p hp rfl
          unfold flatA at this ⊢
          rw [count_preL h hx hp hu 103 _ hroot hB, this]
          unfold rootsA
          rw [(nodup_filter _ h.rising.nodup).count]
          simp [hu]
    exact key _ x hx rfl
  · rw [List.count_eq_zero.2 hx, List.count_eq_zero.2]
    intro hm
    exact hx (preL_sub 103 _ hroot x hm)

/-- A rising list is its own sorting. -/
theorem rising_unique {L l : List Acct} (hp : l.Perm L) (hL : Rising L) (hl : Rising l) : l = L := by
  unfold Rising at hL hl
  refine List.Perm.eq_of_pairwise (le := fun a b : Acct => cmpB a.name b.name < 0) ?_ hl hL hp
  intro a b _ _ h1 h2
  have := cmp_trans h1 h2
  rw [cmp_self] at this
  omega
end Go.Proofs.YtplocldnklccfaaGreatDoor
namespace Go.Proofs.YtplocldnklccfaaGreatDoor
open Go.RowKit Go.Shelf
set_option linter.unusedVariables false
set_option linter.unusedSimpArgs false
attribute [local go_sem] Oper.semAt_some

set_option maxRecDepth 100000 in
theorem Close_none (cb mb : Nat) (name : ByteArray) (w : World) (hlt : cb < w.heap.size) (hc0 : w.cell? ⟨cb, 0, none⟩ = some (.map (some mb)))
    (hlk : ∀ o, Sem.run Tryz.prog (Instr.lookup 145 (.map (some mb)) (.string name) false) (w.alloc o) = .ok (.pointer none) (w.alloc o)) :
    Calls Tryz.prog 152 #[.pointer (some ⟨cb, 0, none⟩), .string name] w fun e w' => e = .returned (.int .i64 61) ∧ Below w.heap.size w w' := by
  go_enter Tryz.func152, Tryz.ntmps152
  go_wp2
  refine bodyPost_ret (v := .int .i64 61) (by simp [results, Tryz.results152, go_sem]) rfl ⟨rfl, ?_⟩
  first | exact (Below.refl _ _).alloc (Nat.le_refl _) _ | exact ((Below.refl _ _).alloc (Nat.le_refl _) _).setCell (Nat.le_refl _) _

set_option maxRecDepth 100000 in
theorem Close_closed (cb mb nb : Nat) (name : ByteArray) (w : World) (hlt : cb < w.heap.size) (hln : nb < w.heap.size) (hc0 : w.cell? ⟨cb, 0, none⟩ = some (.map (some mb)))
    (hlk : ∀ o, Sem.run Tryz.prog (Instr.lookup 145 (.map (some mb)) (.string name) false) (w.alloc o) = .ok (.pointer (some ⟨nb, 0, none⟩)) (w.alloc o))
    (h3 : w.cell? ⟨nb, 3, none⟩ = some (.bool true)) :
    Calls Tryz.prog 152 #[.pointer (some ⟨cb, 0, none⟩), .string name] w fun e w' => e = .returned (.int .i64 63) ∧ Below w.heap.size w w' := by
  go_enter Tryz.func152, Tryz.ntmps152
  go_wp2
  refine bodyPost_ret (v := .int .i64 63) (by simp [results, Tryz.results152, go_sem]) rfl ⟨rfl, ?_⟩
  first | exact (Below.refl _ _).alloc (Nat.le_refl _) _ | exact ((Below.refl _ _).alloc (Nat.le_refl _) _).setCell (Nat.le_refl _) _

/-- What Close leaves where the account is open: ys: all that is below it. -/
def CloseEnd (ys : List Acct) (nb : Nat) (w : World) (e : Ending) (w' : World) : Prop :=
  (ys.all (·.closed) = false ∧ e = .returned (.int .i64 65) ∧ Below w.heap.size w w') ∨
  (ys.all (·.closed) = true ∧ e = .returned (.int .i64 0) ∧ Ch (fun k => k = nb) w w' ∧ ∀ cs t, w.heap[nb]? = some (.cells cs t (0, 0)) → w'.heap[nb]? = some (.cells (cs.setIfInBounds 3 (.bool true)) t (0, 0)))

set_option maxRecDepth 100000 in
set_option maxHeartbeats 4000000 in
theorem Close_open (F : Fence) (n : Nat) (hd : F.depth = none) (hF : ∀ k, F.fn k) (hro : F.round = none) (cb mb nb : Nat) (name : ByteArray) (ys : List Acct) (Ak : Option Addr) (nk ck : Nat) (w : World) (hlt : cb < w.heap.size) (hln : nb < w.heap.size) (hc0 : w.cell? ⟨cb, 0, none⟩ = some (.map (some mb)))
    (hlk : ∀ o, Sem.run Tryz.prog (Instr.lookup 145 (.map (some mb)) (.string name) false) (w.alloc o) = .ok (.pointer (some ⟨nb, 0, none⟩)) (w.alloc o))
    (h3 : w.cell? ⟨nb, 3, none⟩ = some (.bool false)) (hf3 : w.frozen? ⟨nb, 3, none⟩ = false) (h4 : w.cell? ⟨nb, 4, none⟩ = some (.slice Ak nk ck))
    (hit : ∀ (W : World) (Bt : Nat), Below w.heap.size w W → Bt < W.heap.size → W.cell? ⟨Bt, 0, none⟩ = some (.slice Ak nk ck) → It F Tryz.prog 248 #[.pointer (some ⟨Bt, 0, none⟩)] 238 accV w.heap.size ys W) :
    CallsIn F n Tryz.prog 152 #[.pointer (some ⟨cb, 0, none⟩), .string name] w (CloseEnd ys nb w) := by
  have HIT := Lib.hid hit
  clear hit
  have hdd : ∀ k : Nat, (F.depth.isSome = true → 1 ≤ k) := fun k h => by rw [hd] at h; cases h
  refine callsIn_of_wp_marks Tryz.func152 rfl (hF _) ?_ hro
  simp only [Tryz.ntmps152, List.size_toArray, List.length_cons, List.length_nil, Nat.reduceAdd, Nat.reduceSub, Array.replicate_succ, Array.replicate_zero, List.push_toArray, List.append_toArray, List.nil_append, List.cons_append]
  gi_wp2_with ((try refine ⟨hdd _, ?_⟩); gi_at_call 215; refine (below_in F _ (hF _) hro _ _ _ _).mono ?_; rintro e w' ⟨rfl, rfl⟩)
  have bR := (Boxed.new w 152 (.int .i64 0)).alloc (.cells #[.slice Ak nk ck] 146)
  have bL := Boxed.new (w.alloc (.cells #[.int .i64 0] 152)) 146 (.slice Ak nk ck)
  rw [World.size_alloc] at bL
  have hB0 : Below w.heap.size w ((w.alloc (.cells #[.int .i64 0] 152)).alloc (.cells #[.slice Ak nk ck] 146)) := ((Below.refl _ w).alloc (Nat.le_refl _) _).alloc (by simp) _
  have hsz : ((w.alloc (.cells #[.int .i64 0] 152)).alloc (.cells #[.slice Ak nk ck] 146)).heap.size = w.heap.size + 2 := by simp
  obtain ⟨W0, hW0⟩ : ∃ W0, (w.alloc (.cells #[.int .i64 0] 152)).alloc (.cells #[.slice Ak nk ck] 146) = W0 := ⟨_, rfl⟩
  rw [hW0] at bR bL hB0 hsz ⊢
  clear hW0 hlk
  refine wpIn_range_it (T := 238) (enc := accV) (n₀ := w.heap.size) (ys := ys) hd hro (gf := 248) (lb := #[.pointer (some ⟨w.heap.size + 1, 0, none⟩)]) rfl (hF _) (enters_of Tryz.func248 (by kernel_rfl) rfl)
    (HIT.out W0 (w.heap.size + 1) hB0 (by omega) bL.cell) (by omega)
    (fun pre W => (Boxed W w.heap.size 152 (.int .i64 0) ∧ pre.all (·.closed) = true) ∧ Below w.heap.size w W)
    (fun pre W => (Boxed W w.heap.size 152 (.int .i64 65) ∧ pre.all (·.closed) = false) ∧ Below w.heap.size w W)
    (OwnFrom.and (OwnFrom.and (Own.from (boxed_own _ _ _) _) (ownFrom_pure _ _)) (ownFrom_below (Nat.le_refl _) (by omega)))
    (OwnFrom.and (OwnFrom.and (Own.from (boxed_own _ _ _) _) (ownFrom_pure _ _)) (ownFrom_below (Nat.le_refl _) (by omega)))
    ⟨⟨bR, rfl⟩, hB0⟩
    (fun x a' W => ∃ Bx, W.heap[Bx]? = some (.cells #[.string x.name, .int .i64 x.typ, .int .i64 x.opened, .bool x.closed] 159 (0, 0)) ∧ a' = { tmps := #[.pointer (some ⟨cb, 0, none⟩), .string name, undef, undef, .pointer (some ⟨w.heap.size, 0, none⟩), .pointer (some ⟨nb, 0, none⟩), .pointer (some ⟨Bx, 0, none⟩), .pointer (some ⟨cb, 0, none⟩), .pointer (some ⟨cb, 0, none⟩), .pointer (some ⟨cb, 0, none⟩), .map (some mb), .string name, .pointer (some ⟨nb, 0, none⟩), .bool false, .pointer (some ⟨nb, 0, none⟩), .bool false, .bool false, .pointer (some ⟨nb, 0, none⟩), .pointer (some ⟨nb, 0, none⟩), .pointer (some ⟨nb, 0, none⟩), .pointer (some ⟨nb, 3, none⟩), .bool false, .pointer (some ⟨nb, 0, none⟩), .pointer (some ⟨nb, 0, none⟩), .pointer (some ⟨nb, 4, none⟩), .slice Ak nk ck, .func (.func 248) #[] #[.pointer (some ⟨w.heap.size + 1, 0, none⟩)], accV x, undef, undef, undef, undef, undef, undef, undef], defers := [] })
    (fun x a' _ X Y row h hg hr => by
      obtain ⟨Bx, h1, h2⟩ := h
      refine ⟨Bx, (hg.block Bx (heap_lt h1) (fun e => ?_)).trans h1, h2⟩
      obtain ⟨_, o, ho, hc⟩ := hr Bx e.symm
      rw [h1] at ho; cases ho; cases hc)
    ?assign ?body ?done ?stop
  case assign =>
    intro l2 m q x W' K hs' hI hK
    unfold accV
    gi_wp2
    exact hK _ _ (Kp.alloc _ (by omega)) ⟨⟨hI.1.1.alloc _, hI.1.2⟩, hI.2.alloc (by omega) _⟩ ⟨W'.heap.size, heap_alloc_new _ _, rfl⟩
  case body =>
    rintro l2 m q x a' W' hs' ⟨⟨hbR, hall⟩, hbel⟩ ⟨Bx, hBx, rfl⟩ hq
    unfold accV
    have x3 : W'.cell? ⟨Bx, 3, none⟩ = some (.bool x.closed) := by rw [cell_of_blk hBx]; rfl
    have hcR := hbR.cell
    have hfR := hbR.frozen
    cases hx : x.closed with
    | true =>
      rw [hx] at x3
      gi_wp2
      exact ⟨Kp.refl _ _ _ _, ⟨hbR, by simp [hall, hx]⟩, hbel⟩
    | false =>
      rw [hx] at x3
      gi_wp2
      exact ⟨Kp.setCell _ (Nat.le_refl _) (fun v hv => by have := (show W'.heap[w.heap.size]? = _ from hbR).symm.trans hv; injection this with this; injection this with h1 h2; exact absurd h2 (by decide)), ⟨hbR.set _, by simp [hall, hx]⟩, hbel.setCell (p := ⟨w.heap.size, 0, none⟩) (Nat.le_refl _) _⟩
  case done =>
    rintro D W' hD ⟨⟨hbR, hall⟩, hbel⟩ hDd
    have hcR := hbR.cell
    have hfR := hbR.frozen
    have hc3 := (hbel.cell (p := ⟨nb, 3, none⟩) hln).trans h3
    have hf3' := (hbel.frozen (p := ⟨nb, 3, none⟩) hln).trans hf3
    have hne : nb ≠ w.heap.size := by omega
    gi_wp2
    obtain ⟨W5, hW5⟩ : ∃ W5, (W'.setCell ⟨nb, 3, none⟩ (.bool true)).setCell ⟨w.heap.size, 0, none⟩ (.int .i64 0) = W5 := ⟨_, rfl⟩
    rw [hW5]
    have hD5 : W5.heap[D]? = some (.deferred (some [])) := by rw [← hW5]; exact ((KeepsOthers.setCell _ _ _).trans (KeepsOthers.setCell _ _ _)).same D _ hDd rfl
    have bR5 : Boxed W5 w.heap.size 152 (.int .i64 0) := by
      rw [← hW5]
      exact Boxed.set _ ((Below.heap_setCell W' ⟨nb, 3, none⟩ (.bool true) w.heap.size (Ne.symm hne)).trans hbR)
    have hc5 : (W5.putObj D (.deferred none)).cell? ⟨w.heap.size, 0, none⟩ = some (.int .i64 0) := (Boxed.kept bR5 (grownBy_putObj' W5 D _) (fun e => by injection e with e; omega)).cell
    refine ⟨by simp, .inl ⟨_, _, rfl, run_takeDeferred hD5, ?_⟩⟩
    refine ⟨.int .i64 0, by simp [results, Tryz.results152, go_sem, hc5], .inr ⟨hall, rfl, ?_, fun cs t ht => ?_⟩⟩
    · have c1 : Ch (fun k => k = nb) w W5 := by
        rw [← hW5]
        exact ((Ch.of_below (F := fun k => k = nb) hbel).setCell (p := ⟨nb, 3, none⟩) (.inl rfl) _).setCell (p := ⟨w.heap.size, 0, none⟩) (.inr (Nat.le_refl _)) _
      exact c1.putObj (.inr (by omega)) _
    · have h1 := heap_setCell_same ((hbel.block nb hln).trans ht) (i := 3) (.bool true)
      have h2 : W5.heap[nb]? = some (.cells (cs.setIfInBounds 3 (.bool true)) t (0, 0)) := by rw [← hW5]; exact (Below.heap_setCell _ ⟨w.heap.size, 0, none⟩ _ nb hne).trans h1
      exact (heap_putObj_other _ (by omega)).trans h2
  case stop =>
    rintro D q W' hD hq ⟨⟨hbR, hall⟩, hbel⟩ hDd
    gi_wp2
    have hc5 : (W'.putObj D (.deferred none)).cell? ⟨w.heap.size, 0, none⟩ = some (.int .i64 65) := (Boxed.kept hbR (grownBy_putObj' W' D _) (fun e => by injection e with e; omega)).cell
    refine ⟨by simp, .inl ⟨_, _, rfl, run_takeDeferred hDd, ?_⟩⟩
    refine ⟨.int .i64 65, by simp [results, Tryz.results152, go_sem, hc5], .inl ⟨?_, rfl, hbel.trans (belowK_b (w := w) (Nat.le_refl _) W' D _ _ (by omega) hDd rfl rfl)⟩⟩
    obtain ⟨t, ht⟩ := hq
    rw [← ht, List.all_append, hall]
    rfl

/-- What Close answers, and the accounts behind it. -/
def closeE (L : List Acct) (name : ByteArray) : Int :=
  match findA L name with
  | none => 61
  | some a => if a.closed then 63 else if (flatA L (kidsA L a.name)).all (·.closed) then 0 else 65
def shutA (n : ByteArray) (L : List Acct) : List Acct := L.map fun b => if b.name = n then { b with closed := true } else b
def closeL (L : List Acct) (name : ByteArray) : List Acct := if closeE L name = 0 then shutA name L else L

theorem shut_name (n : ByteArray) (L : List Acct) : (shutA n L).map (·.name) = L.map (·.name) := by
  unfold shutA
  rw [List.map_map]
  apply List.map_congr_left
  intro b _
  simp only [Function.comp]
  split <;> rfl
theorem mem_shut {n : ByteArray} {L : List Acct} {x : Acct} (h : x ∈ shutA n L) : ∃ b ∈ L, x.name = b.name ∧ x.typ = b.typ ∧ x.opened = b.opened ∧ x.closed = if b.name = n then true else b.closed := by
  obtain ⟨b, hb, rfl⟩ := List.mem_map.1 h
  refine ⟨b, hb, ?_⟩
  split <;> simp
theorem filter_shut (p : ByteArray → Bool) (n : ByteArray) (L : List Acct) : (shutA n L).filter (fun a => p a.name) = shutA n (L.filter fun a => p a.name) := by
  unfold shutA
  induction L with
  | nil => rfl
  | cons b r ih =>
    have e : (if b.name = n then { b with closed := true } else b).name = b.name := by split <;> rfl
    rw [List.map_cons, List.filter_cons, List.filter_cons, e, ih]
    split <;> simp
theorem find_shut (n k : ByteArray) (L : List Acct) : (findA (shutA n L) k) = (findA L k).map fun b => if b.name = n then { b with closed := true } else b := by
  unfold findA shutA
  induction L with
  | nil => rfl
  | cons b r ih =>
    have e : (if b.name = n then { b with closed := true } else b).name = b.name := by split <;> rfl
    rw [List.map_cons, List.find?_cons, List.find?_cons, e, ih]
    split <;> rfl
theorem map_shut {β : Type} (f : ByteArray → β) (n : ByteArray) (L : List Acct) : ((shutA n L).map fun a => f a.name) = L.map fun a => f a.name := by
  have := congrArg (List.map f) (shut_name n L)
  rw [List.map_map, List.map_map] at this
  exact this

/-- The chart of a list of which one account is closed. -/
theorem CR.shut {w w' : World} {F : Nat → Prop} {cb mb : Nat} {L : List Acct} {rv : Value} {nb : ByteArray → Nat} {kv : ByteArray → Value} {ps : List (ByteArray × Value)}
    (h : CR w F cb L mb rv nb kv ps) {a : Acct} (ha : a ∈ L) (hc : Ch (fun k => k = nb a.name) w w')
    (hn : ∀ cs t, w.heap[nb a.name]? = some (.cells cs t (0, 0)) → w'.heap[nb a.name]? = some (.cells (cs.setIfInBounds 3 (.bool true)) t (0, 0))) : CR w' F cb (shutA a.name L) mb rv nb kv ps := by
  have keep : ∀ k, k < w.heap.size → k ≠ nb a.name → w'.heap[k]? = w.heap[k]? := fun k hk hn => hc.block k hk hn
  have hk : ∀ n, kidsA (shutA a.name L) n = shutA a.name (kidsA L n) := fun n => filter_shut (fun x => decide (parentF x = some n)) a.name L
  have hr : rootsA (shutA a.name L) = shutA a.name (rootsA L) := filter_shut (fun x => decide (parentF x = none)) a.name L
  refine { hC := (keep cb (heap_lt h.hC) (h.cb_nb ha)).trans h.hC, hM := h.hM.keep (keep mb h.hM.lt (Ne.symm (h.nb_mb ha))), hps := ?_, hlen := ?_, le := ?_, hN := ?_, hK := ?_, hR := ?_, fC := h.fC, fM := h.fM, fN := ?_, fK := ?_, fR := h.fR, inj := ?_, dK := ?_, dR := ?_ }
  · intro k
    rw [h.hps, find_shut]
    cases findA L k with
    | none => rfl
    | some b =>
      simp only [Option.map_some]
      congr 2
      split <;> rfl
  · rw [h.hlen]; simp [shutA]
  · simpa [shutA] using h.le
  · intro x hx
    obtain ⟨b, hb, e1, e2, e3, e4⟩ := mem_shut hx
    rw [e1, e2, e3, e4]
    have hnb := h.hN b hb
    by_cases e : b.name = a.name
    · rw [if_pos e]
      rw [e] at hnb ⊢
      exact hn _ _ hnb
    · rw [if_neg e, keep _ (heap_lt hnb) (fun e' => e (h.inj b hb a ha e'))]
      exact hnb
  · intro x hx
    obtain ⟨b, hb, e1, _⟩ := mem_shut hx
    rw [e1, hk, map_shut (fun m => ptrV (nb m)), show (shutA a.name (kidsA L b.name)).length = (kidsA L b.name).length from by simp [shutA]]
    exact ownsRow_keep (h.hK b hb) fun k e => keep k ((h.hK b hb).lt k e).2 (fun e' => own_ne (h.hK b hb) (h.hN a ha) (by decide) (by rw [e, e']))
  · rw [hr, map_shut (fun m => ptrV (nb m)), show (shutA a.name (rootsA L)).length = (rootsA L).length from by simp [shutA]]
    exact ownsRow_keep h.hR fun k e => keep k (h.hR.lt k e).2 (fun e' => own_ne h.hR (h.hN a ha) (by decide) (by rw [e, e']))
  · intro x hx
    obtain ⟨b, hb, e1, _⟩ := mem_shut hx
    rw [e1]; exact h.fN b hb
  · intro x hx
    obtain ⟨b, hb, e1, _⟩ := mem_shut hx
    rw [e1]; exact h.fK b hb
  · intro x hx y hy
    obtain ⟨b, hb, e1, _⟩ := mem_shut hx
    obtain ⟨c, hc', e2, _⟩ := mem_shut hy
    rw [e1, e2]; exact h.inj b hb c hc'
  · intro x hx y hy
    obtain ⟨b, hb, e1, _⟩ := mem_shut hx
    obtain ⟨c, hc', e2, _⟩ := mem_shut hy
    rw [e1, e2]; exact h.dK b hb c hc'
  · intro x hx
    obtain ⟨b, hb, e1, _⟩ := mem_shut hx
    rw [e1]; exact h.dR b hb

theorem Close_any {w : World} {F : Nat → Prop} {cb : Nat} {L : List Acct} (h : ChartAt w F cb L) (hv : Valid L) (name : ByteArray) :
    Calls Tryz.prog 152 #[.pointer (some ⟨cb, 0, none⟩), .string name] w (MutPost F cb (closeL L name) (.int .i64 (closeE L name)) w) := by
  obtain ⟨mb, rv, nb, kv, ps, hcr⟩ := h
  have hlk := fun o => (hcr.keep (w' := w.alloc o) fun k _ hk => Below.heap_alloc w o k hk).lookup name
  have hc0 : w.cell? ⟨cb, 0, none⟩ = some (.map (some mb)) := by rw [cell_of_blk hcr.hC]; rfl
  have same : ∀ (n : Int) (e : Ending) (w' : World), n ≠ 0 → closeE L name = n → (e = .returned (.int .i64 n) ∧ Below w.heap.size w w') → MutPost F cb (closeL L name) (.int .i64 (closeE L name)) w e w' := fun n e w' hn hc ⟨h1, h2⟩ => by
    unfold closeL
    rw [hc, if_neg hn]
    exact ⟨h1, F, ChartAt.below ⟨mb, rv, nb, kv, ps, hcr⟩ h2, Ch.of_below h2, fun k hk => .inl hk⟩
  cases hf : findA L name with
  | none =>
    have hE : closeE L name = 61 := by unfold closeE; rw [hf]
    rw [hf] at hlk
    exact (Close_none cb mb name w (heap_lt hcr.hC) hc0 hlk).mono fun e w' hp => same 61 e w' (by decide) hE hp
  | some a =>
    rw [hf] at hlk
    obtain ⟨ha, rfl⟩ := findA_some hf
    have hn := hcr.hN a ha
    cases hcl : a.closed with
    | true =>
      have hE : closeE L a.name = 63 := by unfold closeE; rw [hf]; simp [hcl]
      exact (Close_closed cb mb (nb a.name) a.name w (heap_lt hcr.hC) (heap_lt hn) hc0 hlk (by rw [cell_of_blk hn]; simp [hcl])).mono fun e w' hp => same 63 e w' (by decide) hE hp
    | false =>
      obtain ⟨hfo, _⟩ := hcr.forest
      obtain ⟨Ak, ck, hkv, _⟩ := (hfo.kids a ha).ex
      have hrow := hfo.kids a ha
      have hc4 := hfo.c4 a ha
      rw [hkv] at hrow hc4
      have hB : ∀ b ∈ kidsA L a.name, 102 < b.name.size + 103 := fun b _ => by omega
      have hkl : (kidsA L a.name).length ≤ 100 := Nat.le_trans (List.length_filter_le _ _) hv.le
      have hit : ∀ (W : World) (Bt : Nat), Below w.heap.size w W → Bt < W.heap.size → W.cell? ⟨Bt, 0, none⟩ = some (.slice Ak (kidsA L a.name).length ck) → It Fence.wide Tryz.prog 248 #[.pointer (some ⟨Bt, 0, none⟩)] 238 accV w.heap.size (flatA L (kidsA L a.name)) W :=
        fun W Bt hb hBt hcell => seq_it Fence.wide rfl (fun _ => trivial) rfl w.heap.size L nb kv 102 hv.le (fun a ha => hv.size ha) hv.kid 103 (kidsA L a.name) (fun b hb => (List.mem_filter.1 hb).1) hB hkl Bt _ W hb.size hBt hcell (hrow.below hb) (hfo.below hb)
      refine ((callsIn_wide (n := 3)).1 (Close_open Fence.wide 3 rfl (fun _ => trivial) rfl cb mb (nb a.name) a.name _ Ak _ ck w (heap_lt hcr.hC) (heap_lt hn) hc0 hlk (by rw [cell_of_blk hn]; simp [hcl]) (frozen_of_row _ _ _ _ _ hn) hc4 hit)).mono ?_
      rintro e w' (⟨hall, h1, h2⟩ | ⟨hall, rfl, h2, h3⟩)
      · exact same 65 e w' (by decide) (by unfold closeE; rw [hf]; simp [hcl, hall]) ⟨h1, h2⟩
      · have hE : closeE L a.name = 0 := by unfold closeE; rw [hf]; simp [hcl, hall]
        unfold closeL
        rw [hE, if_pos rfl]
        exact ⟨rfl, F, ⟨mb, rv, nb, kv, ps, hcr.shut ha h2 h3⟩, h2.mono fun k e => by subst e; exact hcr.fN a ha, fun k hk => .inl hk⟩
end Go.Proofs.YtplocldnklccfaaGreatDoor
namespace Go.Proofs.YtplocldnklccfaaGreatDoor
open Go.RowKit
set_option linter.unusedVariables false
set_option linter.unusedSimpArgs false

theorem rising_mono {M : List Acct} (hr : Rising M) (t : ByteArray) : ∀ i j (hi : i < (M.map (·.name)).length) (hj : j < (M.map (·.name)).length), i ≤ j → cmpB (M.map (·.name))[j] t < 0 → cmpB (M.map (·.name))[i] t < 0 := by
  intro i j hi hj hij h
  rw [List.getElem_map] at h ⊢
  rcases Nat.lt_or_eq_of_le hij with hlt | rfl
  · exact cmp_trans (rising_get hr (by simpa using hj) hlt) h
  · exact h

/-- The world behind the two new blocks. -/
def addW1 (w : World) (a : Acct) : World :=
  ((w.alloc (.cells #[.string a.name, .int .i64 a.typ, .int .i64 a.opened, .bool a.closed] 159)).alloc (.cells #[.string a.name, .int .i64 a.typ, .int .i64 a.opened, .bool a.closed, .slice none 0 0] 236)).drew

theorem addW1_old (w : World) (a : Acct) {k : Nat} (hk : k < w.heap.size) : (addW1 w a).heap[k]? = w.heap[k]? :=
  (Below.heap_alloc _ _ k (by simp; omega)).trans (Below.heap_alloc _ _ k hk)
theorem addW1_size (w : World) (a : Acct) : (addW1 w a).heap.size = w.heap.size + 2 := by simp [addW1, World.drew]
theorem addW1_new (w : World) (a : Acct) : (addW1 w a).heap[w.heap.size + 1]? = some (.cells #[.string a.name, .int .i64 a.typ, .int .i64 a.opened, .bool a.closed, .slice none 0 0] 236 (0, 0)) := by
  have := heap_alloc_new (w.alloc (.cells #[.string a.name, .int .i64 a.typ, .int .i64 a.opened, .bool a.closed] 159)) (.cells #[.string a.name, .int .i64 a.typ, .int .i64 a.opened, .bool a.closed, .slice none 0 0] 236)
  rw [World.size_alloc] at this
  exact this
theorem addW1_acc (w : World) (a : Acct) : (addW1 w a).heap[w.heap.size]? = some (.cells #[.string a.name, .int .i64 a.typ, .int .i64 a.opened, .bool a.closed] 159 (0, 0)) := by
  exact (Below.heap_alloc _ _ _ (by simp)).trans (heap_alloc_new _ _)

/-- What lay below the old heap and is not the map's block lies so behind all. -/
theorem addW3_old {w W2 W3 : World} {mb : Nat} {a : Acct} {o : Obj} (hW2 : W2 = (addW1 w a).putObj mb o) (hb : Below W2.heap.size W2 W3) {k : Nat} (hk : k < w.heap.size) (hkm : k ≠ mb) : W3.heap[k]? = w.heap[k]? := by
  have hs : W2.heap.size = w.heap.size + 2 := by rw [hW2]; simp [World.putObj, addW1_size]
  rw [hb.block k (by omega), hW2, heap_putObj_other _ hkm, addW1_old w a hk]

/-- put's premises, behind the map's update and whatever lays new blocks alone. -/
theorem put_ready {w W2 W3 : World} {mb : Nat} {a : Acct} {v : Value} {M : List Acct} {nb : ByteArray → Nat} (o : Obj) (hW2 : W2 = (addW1 w a).putObj mb o) (hb : Below W2.heap.size W2 W3)
    (hlen : M.length ≤ 99) (hr : Rising M) (hml : mb < w.heap.size)
    (hown : w.ownsRow 0 234 1 v M.length (M.map fun b => ptrV (nb b.name))) (hvm : v.ownBlock ≠ some mb)
    (hN : ∀ b ∈ M, nb b.name ≠ mb ∧ nb b.name < w.heap.size ∧ w.cell? ⟨nb b.name, 0, none⟩ = some (.string b.name)) :
    Calls Tryz.prog 247 #[v, .pointer (some ⟨w.heap.size + 1, 0, none⟩)] W3 (PutPost (M.map (·.name)) ((M.map (·.name)).map fun s => .pointer (some ⟨nb s, 0, none⟩)) a.name (.pointer (some ⟨w.heap.size + 1, 0, none⟩)) W3 v) := by
  have hs : W2.heap.size = w.heap.size + 2 := by rw [hW2]; simp [World.putObj, addW1_size]
  refine put_any (M.map (·.name)) nb v (w.heap.size + 1) a.name W3 (by simpa using hlen) ?_ ?_ ?_ (rising_mono hr a.name)
  · have : ((M.map (·.name)).map fun s => Value.pointer (some ⟨nb s, 0, none⟩)) = M.map fun b => ptrV (nb b.name) := by rw [List.map_map]; rfl
    rw [this, List.length_map]
    exact ownsRow_keep hown fun k hk => addW3_old hW2 hb (hown.lt k hk).2 fun e => hvm (by rw [hk, e])
  · intro j hj
    rw [List.getElem_map]
    obtain ⟨h1, h2, h3⟩ := hN _ (List.getElem_mem (by simpa using hj))
    exact keep_cell h3 (addW3_old hW2 hb h2 h1)
  · have : W3.heap[w.heap.size + 1]? = _ := (hb.block _ (by omega)).trans ((hW2 ▸ heap_putObj_other o (by omega)).trans (addW1_new w a))
    rw [cell_of_blk this]
    rfl

theorem add_any {w : World} {F : Nat → Prop} {cb : Nat} {L : List Acct} (h : ChartAt w F cb L) {a : Acct} (ha : CanAdd L a) :
    Calls Tryz.prog 210 #[.pointer (some ⟨cb, 0, none⟩), accV a] w (MutPost F cb (insA a L) (.tuple #[]) w) := by
  obtain ⟨mb, rv, nb, kv, ps, h⟩ := h
  have hml := h.hM.lt
  have hcl := heap_lt h.hC
  obtain ⟨o, hmu, hmap⟩ := run_update_strmap (P := Tryz.prog) (h.hM.keep (w' := addW1 w a) (addW1_old w a hml)) Tryz.underlying145 Tryz.underlying9 a.name (.pointer (some ⟨w.heap.size + 1, 0, none⟩)) (by rw [h.hps, ha.none_]; rfl)
  have ho : ∀ x : World, x.heap[mb]? = some o → StrMap x mb (ps ++ [(a.name, ptrV (w.heap.size + 1))]) := fun x hx => by
    refine hmap.keep ?_
    rw [hx]
    have : mb < (addW1 w a).heap.size := by rw [addW1_size]; omega
    simp [World.putObj, Array.getElem?_setIfInBounds, this]
  obtain ⟨W2, hW2⟩ : ∃ W2, W2 = (addW1 w a).putObj mb o := ⟨_, rfl⟩
  rw [← hW2] at hmu hmap
  have hs2 : W2.heap.size = w.heap.size + 2 := by rw [hW2]; simp [World.putObj, addW1_size]
  have hA : W2.cell? ⟨w.heap.size, 0, none⟩ = some (.string a.name) := by
    have : W2.heap[w.heap.size]? = _ := (hW2 ▸ heap_putObj_other o (by omega)).trans (addW1_acc w a)
    rw [cell_of_blk this]
    rfl
  have old2 : ∀ k, k < w.heap.size → k ≠ mb → W2.heap[k]? = w.heap[k]? := fun k hk hkm => addW3_old hW2 (Below.refl _ _) hk hkm
  have hcb2 := old2 cb hcl h.cb_mb
  have hc0 : w.cell? ⟨cb, 0, none⟩ = some (.map (some mb)) := by rw [cell_of_blk h.hC]; rfl
  have hc1 : w.cell? ⟨cb, 1, none⟩ = some rv := by rw [cell_of_blk h.hC]; rfl
  have hle := h.le
  have hN : ∀ b ∈ L, nb b.name ≠ mb ∧ nb b.name < w.heap.size ∧ w.cell? ⟨nb b.name, 0, none⟩ = some (.string b.name) := fun b hb => ⟨h.nb_mb hb, heap_lt (h.hN b hb), by rw [cell_of_blk (h.hN b hb)]; rfl⟩
  cases hp : parentF a.name with
  | none =>
    have hr1 := own_ne h.hR h.hC (by decide)
    have hr2 := own_ne_map h.hR h.hM
    have hlen : (rootsA L).length ≤ 99 := Nat.le_trans (List.length_filter_le _ _) ha.room
    have hfz : W2.frozen? ⟨cb, 1, none⟩ = false := keep_frozen (frozen_of_row _ _ _ _ _ h.hC) hcb2
    refine (Go.Proofs.YtplocldnklccfaaGreatDoor.add_root cb mb rv a ((rootsA L).map (·.name)) (((rootsA L).map (·.name)).map fun s => .pointer (some ⟨nb s, 0, none⟩)) w W2 hcl ha.size hmu hc0 (by omega) (by omega) hA (keep_cell hc1 hcb2) hfz hr1 ?_ hp ?_).mono ?_
    · obtain ⟨A, c, e, _⟩ := own_slice2 h.hR
      exact ⟨A, _, c, e⟩
    · intro W3 hb
      exact put_ready o hW2 hb hlen (rising_filter _ ha.rising) hml h.hR hr2 fun b hb => hN b (List.mem_filter.1 hb).1
    · intro e w' hend
      obtain ⟨rfl, hm⟩ := add_mem w _ W2 mb cb 1 rv (rootsA L) a nb o e w' rfl hW2 hml hcl h.cb_mb.symm (fun e => hr2 e.symm) (fun e => hr1 e.symm) (fun k hk => (h.hR.lt k hk).2) (fun x hx => find_none ha.none_ x (List.mem_filter.1 hx).1) hend
      exact h.add_root ha hp ho hm
  | some u =>
    obtain ⟨p, hpL, rfl⟩ := ha.up u hp
    have hpn := h.hN p hpL
    have hpl := heap_lt hpn
    have hpb2 := old2 (nb p.name) hpl (h.nb_mb hpL)
    have hr1 := own_ne (h.hK p hpL) hpn (by decide)
    have hr0 := own_ne (h.hK p hpL) h.hC (by decide)
    have hr2 := own_ne_map (h.hK p hpL) h.hM
    have hlen : (kidsA L p.name).length ≤ 99 := Nat.le_trans (List.length_filter_le _ _) ha.room
    have hfz : W2.frozen? ⟨nb p.name, 4, none⟩ = false := keep_frozen (frozen_of_row _ _ _ _ _ hpn) hpb2
    have hk2 : W2.cell? ⟨nb p.name, 4, none⟩ = some (kv p.name) := keep_cell (by rw [cell_of_blk hpn]; rfl) hpb2
    refine (Go.Proofs.YtplocldnklccfaaGreatDoor.add_kid cb mb (nb p.name) (kv p.name) p.name a ((kidsA L p.name).map (·.name)) (((kidsA L p.name).map (·.name)).map fun s => .pointer (some ⟨nb s, 0, none⟩)) w W2 hcl ha.size hmu hc0 (by omega) (by omega) (by omega) (by omega) hA (keep_cell hc0 hcb2) hk2 hfz hr0 hr2 hr1 ?_ hp ?_ ?_).mono ?_
    · obtain ⟨A, c, e, _⟩ := own_slice2 (h.hK p hpL)
      exact ⟨A, _, c, e⟩
    · intro W' hW'
      have := run_lookup_strmap (P := Tryz.prog) (hmap.keep hW') Tryz.underlying145 Tryz.underlying9 Tryz.zeroValue234 p.name
      rw [this, getP_append, h.hps, find_mem ha.rising hpL]
      rfl
    · intro W3 hb
      exact put_ready o hW2 hb hlen (rising_filter _ ha.rising) hml (h.hK p hpL) hr2 fun b hb => hN b (List.mem_filter.1 hb).1
    · intro e w' hend
      obtain ⟨rfl, hm⟩ := add_mem w _ W2 mb (nb p.name) 4 (kv p.name) (kidsA L p.name) a nb o e w' rfl hW2 hml hpl (h.nb_mb hpL).symm (fun e => hr2 e.symm) (fun e => hr1 e.symm) (fun k hk => ((h.hK p hpL).lt k hk).2) (fun x hx => find_none ha.none_ x (List.mem_filter.1 hx).1) hend
      exact h.add_kid ha hpL hp ho hm
end Go.Proofs.YtplocldnklccfaaGreatDoor
