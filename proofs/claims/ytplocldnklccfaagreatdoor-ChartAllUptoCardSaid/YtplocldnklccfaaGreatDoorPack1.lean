/- Small words that all walks of this seat use; Words on memory: what may have changed between two worlds; maps keyed by strings as lists of pairs; slices.Insert of one node's address into a list of them that the program owns: three roads; Plain words on names of accounts: parts, good names, what stands above a name; no program; Contracts of the functions on names: part, Good; the world is as it was, or has grown; What a chart is, in plain words, and how it lies in memory; The order of names, and rising lists of accounts; no program; order (two accounts by name) and slices.BinarySearchFunc by it; put: one more into a rising list of nodes; Contracts of the functions on names: Good and what it calls; the world is as it was, or has grown; Parent. -/
import Derived.Test.YtplocldnklccfaaGreatDoorProg
import Derived.WalkKit
import Derived.WalkSpells
import Derived.WalkLawsBesides
import Derived.LoopTactic
import Derived.Outline
import Derived.Lib.Hide
import Derived.Below
import Derived.WideMake
import Derived.Maps.OwnOps
import Derived.Tactics2
import Derived.Deep.Draws
import Derived.RangeFuncRecord
import Derived.MapKept
import Derived.Shelf.Spec.SlicesInsertGrow
import Derived.Maps.AppendAt
import Derived.Deep.RegionLaw
import Derived.Lib.SplitLaws
import Derived.Lib.Index
import Derived.Lib.LastIndexByte
import Derived.Lib.Bytealg
import Derived.Test.YtplocldnklccfaaGreatDoorShelf
import Derived.BigQuiet
import Derived.Deep.QuietTactic
import Derived.Lib.IndexBytes
import Derived.Shelf.Strings.Split
namespace Go.Proofs.YtplocldnklccfaaGreatDoor
open Go.RowKit
theorem ret_bool {a b : Bool} (h : a = b) : Ending.returned (.bool a) = .returned (.bool b) := by rw [h]
theorem ret_int {k : IntKind} {a b : Int} (h : a = b) : Ending.returned (.int k a) = .returned (.int k b) := by rw [h]
theorem ret_str {a b : ByteArray} (h : a = b) : Ending.returned (.string a) = .returned (.string b) := by rw [h]
theorem data_len (s : ByteArray) : s.data.toList.length = s.size := by rw [Array.length_toList]; rfl
theorem data_get (s : ByteArray) (k : Nat) (h : k < s.size) : s.data.toList[k]'(by rw [data_len]; exact h) = s[k] := rfl
end Go.Proofs.YtplocldnklccfaaGreatDoor
namespace Go.Proofs.YtplocldnklccfaaGreatDoor
open Go.RowKit
set_option linter.unusedVariables false
set_option linter.unusedSimpArgs false

/-- Of what was there, blocks of F alone may have turned. -/
structure Ch (F : Nat → Prop) (w w' : World) : Prop where
  os : w'.os = w.os
  tape : w'.tape = w.tape
  output : w'.output = w.output
  size : w.heap.size ≤ w'.heap.size
  block : ∀ k, k < w.heap.size → ¬ F k → w'.heap[k]? = w.heap[k]?

theorem Ch.refl (F : Nat → Prop) (w : World) : Ch F w w := ⟨rfl, rfl, rfl, Nat.le_refl _, fun _ _ _ => rfl⟩
theorem Ch.mono {F G : Nat → Prop} {w w' : World} (h : Ch F w w') (hg : ∀ k, F k → G k) : Ch G w w' := ⟨h.os, h.tape, h.output, h.size, fun k hk hn => h.block k hk fun hf => hn (hg k hf)⟩
theorem Ch.trans {F G : Nat → Prop} {a b c : World} (h : Ch F a b) (k : Ch G b c) (hG : ∀ i, G i → F i ∨ a.heap.size ≤ i) : Ch F a c :=
  ⟨k.os.trans h.os, k.tape.trans h.tape, k.output.trans h.output, Nat.le_trans h.size k.size, fun i hi hn =>
    (k.block i (Nat.lt_of_lt_of_le hi h.size) fun hg => by rcases hG i hg with h | h; exact hn h; omega).trans (h.block i hi hn)⟩
theorem Ch.trans' {F : Nat → Prop} {a b c : World} (h : Ch F a b) (k : Ch F b c) : Ch F a c := h.trans k fun _ h => .inl h
theorem Ch.drew {F : Nat → Prop} {a w : World} (h : Ch F a w) : Ch F a w.drew := ⟨h.os, h.tape, h.output, h.size, h.block⟩
theorem Ch.drewN {F : Nat → Prop} {a w : World} (h : Ch F a w) (n : Nat) : Ch F a (w.drewN n) := ⟨h.os, h.tape, h.output, h.size, h.block⟩
theorem Ch.alloc {F : Nat → Prop} {a w : World} (h : Ch F a w) (o : Obj) : Ch F a (w.alloc o) :=
  h.trans' ⟨rfl, rfl, rfl, by simp, fun k hk _ => Below.heap_alloc _ _ _ hk⟩
theorem Ch.setCell {F : Nat → Prop} {a w : World} (h : Ch F a w) {p : Addr} (hp : F p.block ∨ a.heap.size ≤ p.block) (u : Value) : Ch F a (w.setCell p u) :=
  h.trans (G := fun k => k = p.block) ⟨rfl, rfl, rfl, by simp [World.setCell], fun k hk hn => Below.heap_setCell _ _ _ _ hn⟩ fun i hi => by subst hi; exact hp
theorem Ch.putObj {F : Nat → Prop} {a w : World} (h : Ch F a w) {b : Nat} (hp : F b ∨ a.heap.size ≤ b) (o : Obj) : Ch F a (w.putObj b o) :=
  h.trans (G := fun k => k = b) ⟨rfl, rfl, rfl, by simp [World.putObj], fun k hk hn => by simp [World.putObj, Array.getElem?_setIfInBounds, Ne.symm hn]⟩ fun i hi => by subst hi; exact hp
theorem Ch.below {F : Nat → Prop} {a w w' : World} (h : Ch F a w) (k : Below w.heap.size w w') : Ch F a w' :=
  h.trans' ⟨k.os, k.tape, k.output, k.size, fun i hi _ => k.block i hi⟩
theorem Ch.of_below {F : Nat → Prop} {w w' : World} (k : Below w.heap.size w w') : Ch F w w' := (Ch.refl F w).below k
theorem Ch.grown {F : Nat → Prop} {a w w' : World} {row : Option Nat} (h : Ch F a w) (hg : w.grownBy w' row) (hr : ∀ k, row = some k → F k ∨ a.heap.size ≤ k) : Ch F a w' :=
  h.trans (G := fun k => row = some k) ⟨hg.os, hg.tape, hg.output, hg.size, fun k hk hn => hg.block k hk fun e => hn e.symm⟩ hr
theorem Ch.toBelow {F : Nat → Prop} {w w' : World} (h : Ch F w w') {B : Nat} (hB : B ≤ w.heap.size) (hF : ∀ k, F k → B ≤ k) : Below B w w' :=
  ⟨h.os, h.tape, h.output, h.size, fun k hk => h.block k (by omega) fun hf => by have := hF k hf; omega⟩

theorem heap_lt {w : World} {k : Nat} {o : Obj} (h : w.heap[k]? = some o) : k < w.heap.size := (Array.getElem?_eq_some_iff.1 h).1
theorem heap_setCell_same {w : World} {b i : Nat} {cs : Array Value} {t : TypeId} {fr : Nat × Nat} (h : w.heap[b]? = some (.cells cs t fr)) (v : Value) :
    (w.setCell ⟨b, i, none⟩ v).heap[b]? = some (.cells (cs.setIfInBounds i v) t fr) := by
  simp [World.setCell, Array.getElem?_modify, h]
theorem heap_putObj_same {w : World} {b : Nat} {o : Obj} (h : w.heap[b]? = some o) (o' : Obj) : (w.putObj b o').heap[b]? = some o' := by
  have := heap_lt h
  simp [World.putObj, Array.getElem?_setIfInBounds, this]
theorem heap_putObj_other {w : World} {b k : Nat} (o' : Obj) (h : k ≠ b) : (w.putObj b o').heap[k]? = w.heap[k]? := by
  simp [World.putObj, Array.getElem?_setIfInBounds, Ne.symm h]

/-- A map keyed by strings: its entries as pairs, in the order in which they came. -/
def StrMap (w : World) (b : Nat) (ps : List (ByteArray × Value)) : Prop :=
  ∃ (es : Array MapEntry) (clock : Nat), w.heap[b]? = some (.map es clock) ∧ es.toList.map (fun e => (e.key, e.val)) = ps.map fun p => (Value.string p.1, p.2)

theorem StrMap.lt {w : World} {b : Nat} {ps : List (ByteArray × Value)} (h : StrMap w b ps) : b < w.heap.size := by
  obtain ⟨_, _, h, _⟩ := h
  exact heap_lt h
theorem StrMap.keep {w w' : World} {b : Nat} {ps : List (ByteArray × Value)} (h : StrMap w b ps) (he : w'.heap[b]? = w.heap[b]?) : StrMap w' b ps := by
  obtain ⟨es, c, h1, h2⟩ := h
  exact ⟨es, c, he.trans h1, h2⟩

theorem beq_bytes (a b : ByteArray) : (a == b) = decide (a = b) := by
  cases a with
  | mk x => cases b with
    | mk y =>
      show (x == y) = _
      by_cases h : x = y
      · subst h; simp
      · simp [h]

/-- What a list of pairs gives at a key. -/
def getP (k : ByteArray) : List (ByteArray × Value) → Option Value
  | [] => none
  | p :: ps => if k = p.1 then some p.2 else getP k ps

theorem getP_append (k : ByteArray) (ps qs : List (ByteArray × Value)) : getP k (ps ++ qs) = (getP k ps).or (getP k qs) := by
  induction ps with
  | nil => rfl
  | cons p ps ih =>
    simp only [List.cons_append, getP]
    by_cases h : k = p.1
    · simp [h]
    · simp [h, ih]

theorem findNow_str (k : ByteArray) : ∀ (ps : List (ByteArray × Value)) (es : List MapEntry) (i : Nat), es.map (fun e => (e.key, e.val)) = ps.map (fun p => (Value.string p.1, p.2)) →
    ∃ r, Instr.findNow .string (.string k) es i = some r ∧ r.map (·.2) = getP k ps
  | [], es, i, h => by
    have : es = [] := by simpa using h
    subst this
    exact ⟨none, rfl, rfl⟩
  | p :: ps, [], i, h => by simp at h
  | p :: ps, e :: es, i, h => by
    simp only [List.map_cons, List.cons.injEq, Prod.mk.injEq] at h
    obtain ⟨⟨h1, h2⟩, h3⟩ := h
    obtain ⟨r, hr, hl⟩ := findNow_str k ps es (i + 1) h3
    by_cases hk : k = p.1
    · refine ⟨some (i, e.val), ?_, ?_⟩
      · simp [Instr.findNow, h1, Instr.sameNow, beq_bytes, hk]
      · simp [getP, hk, h2]
    · refine ⟨r, ?_, ?_⟩
      · simp [Instr.findNow, h1, Instr.sameNow, beq_bytes, hk, hr]
      · rw [hl]
        simp [getP, hk]

section
variable {P : Program}
theorem checkKey_str {K : TypeId} (hK : P.underlying K = some .string) (e : Bool) (k : ByteArray) (w : World) : (Instr.checkKey e 10000 K (.string k)).run P w = .ok () w :=
  MapKept.run_checkKey hK (d := .string) (k := .string k) trivial e 9999

theorem run_lookup_strmap {w : World} {b : Nat} {ps : List (ByteArray × Value)} (h : StrMap w b ps) {T K E : TypeId} (hT : P.underlying T = some (.map K E)) (hK : P.underlying K = some .string)
    {z : Value} (hz : ∀ w, (zeroValue E).run P w = .ok z w) (k : ByteArray) :
    Sem.run P (Instr.lookup T (.map (some b)) (.string k) false) w = .ok ((getP k ps).getD z) w := by
  obtain ⟨es, c, h1, h2⟩ := h
  obtain ⟨r, hr, hl⟩ := findNow_str k ps es.toList 0 h2
  have hck := fun e => checkKey_str hK e k w
  unfold Instr.lookup
  cases r with
  | none =>
    have hl' : getP k ps = none := by simpa using hl.symm
    simp [run_underlying hT, run_underlying hK, MapKept.run_getObj_map h1, hck, Instr.findKey, hr, hl', hz]
  | some x =>
    have hl' : getP k ps = some x.2 := by simpa using hl.symm
    simp [run_underlying hT, run_underlying hK, MapKept.run_getObj_map h1, hck, Instr.findKey, hr, hl']

theorem run_update_strmap {w : World} {b : Nat} {ps : List (ByteArray × Value)} (h : StrMap w b ps) {T K E : TypeId} (hT : P.underlying T = some (.map K E)) (hK : P.underlying K = some .string)
    (k : ByteArray) (v : Value) (hnew : getP k ps = none) :
    ∃ o, Sem.run P (Instr.mapUpdate T (.map (some b)) (.string k) v) w = .ok () (w.putObj b o) ∧ StrMap (w.putObj b o) b (ps ++ [(k, v)]) := by
  obtain ⟨es, c, h1, h2⟩ := h
  obtain ⟨r, hr, hl⟩ := findNow_str k ps es.toList 0 h2
  rw [hnew] at hl
  have : r = none := by simpa using hl
  subst this
  have hck := fun e => checkKey_str hK e k w
  refine ⟨.map (es.push { key := .string k, val := v, born := c }) (c + 1), ?_, es.push { key := .string k, val := v, born := c }, c + 1, heap_putObj_same h1 _, ?_⟩
  · unfold Instr.mapUpdate
    simp [run_underlying hT, run_underlying hK, MapKept.run_getObj_map h1, hck, Instr.findKey, hr, World.putObj, MapKept.run_setObj_map _ h1]
  · simp [h2]
end
end Go.Proofs.YtplocldnklccfaaGreatDoor
namespace Go.Proofs.YtplocldnklccfaaGreatDoor
open Go.RowKit
set_option linter.unusedVariables false
set_option linter.unusedSimpArgs false

theorem info_ptr : (Tryz.prog.info? 234).map (fun i => (i.zero, i.size, i.bytes)) = some (some (.pointer none), 1, 8) := by kernel_rfl

theorem shape_setCells (b : Nat) : ∀ (vs : List Value) (o : Nat) (w : World) (cur : Array Value) (e : TypeId), w.heap[b]? = some (.cells cur e (0, 0)) →
    ∃ cur', (w.setCells b o vs).heap[b]? = some (.cells cur' e (0, 0)) ∧ cur'.size = cur.size
  | [], o, w, cur, e, h => ⟨cur, h, rfl⟩
  | v :: r, o, w, cur, e, h => by
    obtain ⟨c, h1, h2⟩ := shape_setCells b r (o + 1) _ _ e (heap_setCell_same h v (i := o))
    exact ⟨c, h1, by rw [h2]; simp⟩
theorem grown_setCells (b : Nat) : ∀ (vs : List Value) (o : Nat) (w : World), w.grownBy (w.setCells b o vs) (some b)
  | [], o, w => World.grownBy.refl w _
  | v :: r, o, w => World.grownBy.trans (b := w.setCell ⟨b, o, none⟩ v) ⟨rfl, rfl, rfl, by simp [World.setCell], fun k hk hn => Below.heap_setCell _ _ _ _ (fun e => hn (by rw [e]))⟩ (grown_setCells b r (o + 1) _)

theorem own_of_cells {w : World} {g e n cap : Nat} {cur : Array Value} {xs : List Value} (hb : w.heap[g]? = some (.cells cur e (0, 0))) (hs : cur.size = cap) (hn : n ≤ cap) (hm : cap ≤ maxLen) (hl : xs.length = n)
    (hc : ∀ j u, xs[j]? = some u → w.cell? ⟨g, j, none⟩ = some u) : w.ownsRow 0 e 1 (.slice (some ⟨g, 0, none⟩) n cap) n xs := by
  refine ⟨by omega, .inr ⟨g, cap, cur, rfl, Nat.zero_le _, hb, hn, hm, by omega, ?_⟩⟩
  apply List.ext_getElem?
  intro j
  rw [List.getElem?_take]
  by_cases hj : j < n * 1
  · rw [if_pos hj]
    have hjx : j < xs.length := by omega
    have h := hc j _ (List.getElem?_eq_getElem hjx)
    rw [cell_of_row w g j cur e (0, 0) hb] at h
    rw [List.getElem?_eq_getElem hjx, ← h]
    simp
  · rw [if_neg hj, List.getElem?_eq_none (by omega)]

structure InsPost (w : World) (v : Value) (n : Nat) (ys : List Value) (e : Ending) (w' : World) : Prop where
  ex : ∃ v', e = .returned v' ∧ w'.ownsRow 0 234 1 v' n ys ∧ w.grownBy w' v.ownBlock ∧ (v'.ownBlock = v.ownBlock ∨ ∃ k, v'.ownBlock = some k ∧ w.heap.size ≤ k)

set_option maxRecDepth 100000 in
set_option maxHeartbeats 2000000 in
theorem Insert_end (v : Value) (n vb : Nat) (xs : List Value) (x : Value) (w : World) (hn : n ≤ 100) (hown : w.ownsRow 0 234 1 v n xs) (hx : w.heap[vb]? = some (.cells #[x] 234 (0, 0))) (h1 : x.oneCell' = true) :
    Calls Tryz.prog 258 #[v, .int .i64 n, .slice (some ⟨vb, 0, none⟩) 1 1] w (InsPost w v (n + 1) (xs ++ [x])) := by
  obtain ⟨i0, hi, hz0, hz1, hz2⟩ := info_parts info_ptr
  have hxc : ∀ j u, [x][j]? = some u → w.cell? ((⟨vb, 0, none⟩ : Addr).add j) = some u := fun j u hu => by
    have hj : j = 0 := by
      rcases j with _ | j
      · rfl
      · simp at hu
    subst hj
    simp at hu
    subst hu
    show w.cell? ⟨vb, 0, none⟩ = _
    rw [cell_of_row w vb 0 _ _ _ hx]; rfl
  have HX := Lib.hid hx
  have HXC := Lib.hid hxc
  clear hx hxc
  obtain ⟨A, c, rfl, hc0⟩ : ∃ A c, v = .slice A n c ∧ (n = c ∨ ∃ a, A = some a ∧ n ≤ c) := by
    rcases hown.2 with ⟨rfl, rfl⟩ | ⟨g, cap, cur, rfl, _, _, hnc, _⟩
    · exact ⟨none, 0, rfl, .inl rfl⟩
    · exact ⟨_, cap, rfl, .inr ⟨_, rfl, hnc⟩⟩
  have hcn : n ≤ c := by rcases hc0 with h | ⟨_, _, h⟩ <;> omega
  have hcm : c ≤ 9223372036854775807 := by
    rcases hown.2 with ⟨h, _⟩ | ⟨g, cap, cur, h, _, _, _, h2, _⟩
    · injection h; omega
    · injection h with _ _ h; subst h; unfold maxLen at h2; omega
  have HO := Lib.hid hown
  clear hown hc0
  by_cases hcap : c = n
  · subst hcap
    go_enter Tryz.func258, Tryz.ntmps258
    go_wp2_with (at_builtin; refine wpList_append_own_at _ rfl (.tmp 23) (.tmp 24) 146 rfl 0 234 i0 (.pointer none) 1 8 Tryz.underlying146 hi hz0 hz1 hz2 rfl (by decide) _ _ _ rfl HO.out ⟨vb, 0, none⟩ 1 1 [x] rfl rfl ?c1 ?c2 ?c3 ?c4 ?c5 ?_)
    case c1 => exact HXC.out
    case c2 => intro u hu; simp at hu; subst hu; exact h1
    case c3 => unfold maxLen; omega
    case c4 => omega
    case c5 => omega
    intro v' w1 hown' hg _ hat
    have HO' := Lib.hid hown'
    have HG := Lib.hid hg
    have HA := Lib.hid hat
    clear hown' hg hat
    go_wp2
    go_ret
    exact ⟨v', rfl, HO'.out, HG.out, HA.out.imp id fun h => ⟨_, h, Nat.le_refl _⟩⟩
  · have hcap' : ¬ n = c := fun e => hcap e.symm
    go_enter Tryz.func258, Tryz.ntmps258
    go_wp2_with (at_builtin; refine wpList_append_own_at _ rfl (.tmp 23) (.tmp 24) 146 rfl 0 234 i0 (.pointer none) 1 8 Tryz.underlying146 hi hz0 hz1 hz2 rfl (by decide) _ _ _ rfl HO.out ⟨vb, 0, none⟩ 1 1 [x] rfl rfl ?c1 ?c2 ?c3 ?c4 ?c5 ?_)
    case c1 => exact HXC.out
    case c2 => intro u hu; simp at hu; subst hu; exact h1
    case c3 => unfold maxLen; omega
    case c4 => omega
    case c5 => omega
    intro v' w1 hown' hg _ hat
    have HO' := Lib.hid hown'
    have HG := Lib.hid hg
    have HA := Lib.hid hat
    clear hown' hg hat
    go_wp2
    go_ret
    exact ⟨v', rfl, HO'.out, HG.out, HA.out.imp id fun h => ⟨_, h, Nat.le_refl _⟩⟩

theorem blk_cells {w : World} {b : Nat} {cs : Array Value} {t : TypeId} (h : w.heap[b]? = some (.cells cs t (0, 0))) (j : Nat) : w.cell? ⟨b, j, none⟩ = cs[j]? ∧ w.frozen? ⟨b, j, none⟩ = false :=
  ⟨cell_of_row w b j cs t (0, 0) h, by simp [World.frozen?, h]⟩

set_option maxRecDepth 100000 in
set_option maxHeartbeats 4000000 in
theorem Insert_shift (g n c i vb : Nat) (cur : Array Value) (x : Value) (w : World) (hi : i < n) (hn : n ≤ 100) (hroom : n + 1 ≤ c) (hc63 : c ≤ maxLen)
    (hcur : w.heap[g]? = some (.cells cur 234 (0, 0))) (hsz : cur.size = c) (hx : w.heap[vb]? = some (.cells #[x] 234 (0, 0))) (h1 : x.oneCell' = true) (hgv : vb ≠ g)
    (h1c : ∀ u ∈ cur.toList.take n, u.oneCell' = true) :
    Calls Tryz.prog 258 #[.slice (some ⟨g, 0, none⟩) n c, .int .i64 i, .slice (some ⟨vb, 0, none⟩) 1 1] w fun e w' =>
      e = .returned (.slice (some ⟨g, 0, none⟩) (n + 1) c) ∧ w' = (w.drew.setCells g (i + 1) ((cur.toList.take n).drop i)).setCells g i [x] := by
  unfold maxLen at hc63
  have hz2 : ¬ ((i : Int) = (n : Int)) := by omega
  have hsz1 : (Tryz.prog.info? 234).map (·.size) = some 1 := by
    obtain ⟨i0, hi0, h0, h1, h2⟩ := info_parts info_ptr
    rw [hi0]; simp [h1]
  obtain ⟨cs, hcs⟩ : ∃ cs, cs = cur.toList.take n := ⟨_, rfl⟩
  rw [← hcs] at h1c ⊢
  have hcl : cs.length = n := by rw [hcs]; simp; omega
  have hcc : ∀ j u, cs[j]? = some u → w.cell? ⟨g, j, none⟩ = some u := fun j u hu => by
    rw [(blk_cells hcur j).1]
    rw [hcs, List.getElem?_take] at hu
    split at hu
    · simpa using hu
    · cases hu
  have hsp : ∀ j, j < c → (w.cell? ⟨g, j, none⟩).isSome = true := fun j hj => by rw [(blk_cells hcur j).1, Array.getElem?_eq_getElem (by omega)]; rfl
  have hfz : ∀ j, w.frozen? ⟨g, j, none⟩ = false := fun j => (blk_cells hcur j).2
  have hov : ∀ lb cb, (callFunc 271 #[.slice (some ⟨vb, 0, none⟩) 1 1, .slice (some ⟨g, i + 1, none⟩) lb cb]).run Tryz.prog w = .ok (.value (.bool false)) w := fun lb cb => by
    rw [run_callFunc_extern Tryz.func271 (by kernel_rfl) (by kernel_rfl) (by kernel_rfl) (e := Extern.SlicesOverlaps.overlaps #[146, 146] #[4]) (by kernel_rfl),
      Lib.run_overlaps_apart w 146 4 234 Tryz.underlying146 1 Tryz.sizeOf234 ⟨vb, 0, none⟩ ⟨g, i + 1, none⟩ 1 1 lb cb hgv 234 234 1 c (by simp [World.shape?, hx]) (by simp [World.shape?, hcur, hsz]) (by omega) (blk_cells hx 0).2 (blk_cells hx 1).2]
    rfl
  have hdl : (cs.drop i).length = n - i := by rw [List.length_drop, hcl]
  have hw1 : IntKind.i64.wrap ((i : Int) + 1) = (i : Int) + 1 := by rw [IntKind.wrap_i64]; omega
  have hb1 : (0 : Int) ≤ (i : Int) + 1 := by omega
  have hin : i ≤ n := by omega
  have htn : ((i : Int) + 1).toNat = i + 1 := by omega
  have hb2 : ¬ (c = i + 1) := by omega
  have hb3 : (i : Int) ≤ (n : Int) + 1 := by omega
  have hb4 : ¬ (c = i) := by omega
  have hcp1 : ∀ ty dc sc, (Builtin.copy_ #[146, 146] ty #[.slice (some ⟨g, i + 1, none⟩) (n - i) dc, .slice (some ⟨g, i, none⟩) (n + 1 - i) sc]).run Tryz.prog w.drew = .ok (goInt (cs.drop i).length) (w.drew.setCells g (i + 1) (cs.drop i)) := fun ty dc sc =>
    run_copy_cells w.drew _ _ ty 234 g (i + 1) (n - i) dc ⟨g, i, none⟩ (n + 1 - i) sc (cs.drop i) Tryz.underlying146 hsz1 (by rw [hdl]; simp only [Nat.min_def]; split <;> omega)
      (fun j v hj => by rw [Addr.add_lit]; exact hcc (i + j) v (by rwa [List.getElem?_drop] at hj))
      (fun j hj => hsp _ (by omega)) (fun j hj => hfz _) (fun v hv => h1c v (List.mem_of_mem_drop hv))
  obtain ⟨W1, hW1⟩ : ∃ W1, W1 = w.drew.setCells g (i + 1) (cs.drop i) := ⟨_, rfl⟩
  have hsp1 : ∀ k, k < c → (W1.cell? ⟨g, k, none⟩).isSome = true := fun k hk => by
    rw [hW1]
    exact isSome_setCells g (cs.drop i) (i + 1) w.drew (fun j hj => hsp (i + 1 + j) (by rw [hdl] at hj; omega)) _ (hsp k hk)
  have hcp2 : ∀ ty dc, (Builtin.copy_ #[146, 146] ty #[.slice (some ⟨g, i, none⟩) (n + 1 - i) dc, .slice (some ⟨vb, 0, none⟩) 1 1]).run Tryz.prog W1 = .ok (goInt [x].length) (W1.setCells g i [x]) := fun ty dc =>
    run_copy_cells W1 _ _ ty 234 g i (n + 1 - i) dc ⟨vb, 0, none⟩ 1 1 [x] Tryz.underlying146 hsz1 (by simp only [Nat.min_def, List.length_cons, List.length_nil]; split <;> omega)
      (fun j v hj => by
        rw [Addr.add_lit, hW1, World.cell?_setCells_out g _ _ _ _ (fun h _ => absurd h hgv)]
        show w.cell? _ = _
        rw [(blk_cells hx _).1]
        simpa using hj)
      (fun j hj => hsp1 _ (by simp at hj; omega))
      (fun j hj => by rw [hW1, World.frozen?_setCells]; exact hfz _) (fun v hv => by simp at hv; subst hv; exact h1)
  subst hW1
  clear hcs hcl hcc hsp hfz hdl hsp1 hx hcur h1c
  go_enter Tryz.func258, Tryz.ntmps258
  go_wp2_with (simp only [hov])
  go_region_law (refine step_copy_runI rfl _ _ 146 146 rfl _ _ (by simp [Act.eval, Act.put]) (by simp [Act.eval, Act.put]) (hcp1 _ _ _) ?_)
  go_wp2_with (at_builtin; refine wpList_copy_runI _ rfl _ _ 146 146 rfl _ _ rfl rfl (hcp2 _ _) ?_)
  go_ret
  exact ⟨rfl, rfl⟩

set_option maxRecDepth 100000 in
set_option maxHeartbeats 4000000 in
theorem Insert_grow (g n i vb : Nat) (cur : Array Value) (x : Value) (w : World) (hi : i < n) (hn : n ≤ 100)
    (hcur : w.heap[g]? = some (.cells cur 234 (0, 0))) (hsz : cur.size = n) (hx : w.heap[vb]? = some (.cells #[x] 234 (0, 0))) (h1 : x.oneCell' = true)
    (h1c : ∀ u ∈ cur.toList.take n, u.oneCell' = true) :
    Calls Tryz.prog 258 #[.slice (some ⟨g, 0, none⟩) n n, .int .i64 i, .slice (some ⟨vb, 0, none⟩) 1 1] w fun e w' =>
      ∃ ROW : Array Value, ∃ G : Nat, ROW.size = G ∧ n + 1 ≤ G ∧ G ≤ maxLen ∧ ROW.toList.take i = (cur.toList.take n).take i ∧ e = .returned (.slice (some ⟨w.heap.size, 0, none⟩) (n + 1) G) ∧
      w' = ((((w.alloc (.cells ROW 234)).drew).setCells w.heap.size i [x]).drew).setCells w.heap.size (i + 1) ((cur.toList.take n).drop i) := by
  obtain ⟨i0, hi0, hz0, hzs, hzb⟩ := info_parts info_ptr
  have hz2 : ¬ ((i : Int) = (n : Int)) := by omega
  have hz3 : (n : Int) < (n : Int) + 1 := by omega
  have hsz1 : (Tryz.prog.info? 234).map (·.size) = some 1 := by rw [hi0]; simp [hzs]
  obtain ⟨cs, hcs⟩ : ∃ cs, cs = cur.toList.take n := ⟨_, rfl⟩
  rw [← hcs] at h1c ⊢
  have hcl : cs.length = n := by rw [hcs]; simp; omega
  have hcc : ∀ j u, cs[j]? = some u → w.cell? ⟨g, j, none⟩ = some u := fun j u hu => by
    rw [(blk_cells hcur j).1]
    rw [hcs, List.getElem?_take] at hu
    split at hu
    · simpa using hu
    · cases hu
  have hbw : g < w.heap.size := heap_lt hcur
  have hvw : vb < w.heap.size := heap_lt hx
  have hkk : (n : Int) + 1 - (i : Int) = ((n + 1 - i : Nat) : Int) := by omega
  have hik : i + (n + 1 - i) = n + 1 := by omega
  have hold : (Builtin.firstCells i0.size i (.slice (some ⟨g, 0, none⟩) i n)).run Tryz.prog w.drew = .ok (cs.take i).toArray w.drew := by
    rw [hzs]
    exact run_firstCells_some w.drew 1 i ⟨g, 0, none⟩ i n (cs.take i) (by rw [List.length_take]; omega) (fun j v hj => by
      rw [Addr.add_lit]
      rw [List.getElem?_take] at hj
      split at hj
      · show w.cell? _ = _
        rw [Nat.zero_add]; exact hcc j v hj
      · cases hj)
  obtain ⟨G, hG⟩ : ∃ G, G = grownCap w (n + 1) n 234 := ⟨_, rfl⟩
  obtain ⟨ROW, hROW⟩ : ∃ ROW : Array Value, ROW = (cs.take i).toArray ++ Builtin.zeroCells (Value.pointer none).cells (n + 1 - i) ++ Builtin.zeroCells (Value.pointer none).cells (G - (n + 1)) := ⟨_, rfl⟩
  have hrz : ∀ ty, (Builtin.append_ #[146, 3] ty #[.slice (some ⟨g, 0, none⟩) i n, .int .i64 ((n : Int) + 1 - (i : Int))]).run Tryz.prog w =
      .ok (.slice (some ⟨w.heap.size, 0, none⟩) (n + 1) G) (w.drew.alloc (.cells ROW 234)) := fun ty => by
    have h := Lib.run_append_grow_zeros w 146 3 ty 234 i0 _ .i64 .i64 Tryz.underlying146 Tryz.underlying3 hi0 hz0 (some ⟨g, 0, none⟩) i n (cs.take i) hold (n + 1 - i) (by omega) (by omega) (by omega) (by omega) (by rw [hzb]; omega) (by rw [hzb, hik]; exact growslice_fits (by omega) (by omega))
    rw [hik] at h
    rw [hkk, hROW, hG]
    exact h
  have hGn : n + 1 ≤ G := by rw [hG]; exact grownCap_ge w _ _ _
  have hG63 : G ≤ maxLen := by
    have := grownCap_le_maxLen w (n + 1) n 234 (by unfold maxLen; omega)
    rw [← hG] at this
    exact this
  have hRl : ROW.size = G := by
    rw [hROW]
    simp [Builtin.zeroCells, Value.cells]
    omega
  have hRt : ROW.toList.take i = cs.take i := by
    have hli : (cs.take i).length = i := by rw [List.length_take]; omega
    rw [hROW]
    simp only [Array.toList_append, List.append_assoc]
    rw [List.take_append_of_le_length (by simp only [hli]; exact Nat.le_refl _), List.take_take, Nat.min_self]
  obtain ⟨W1, hW1⟩ : ∃ W1, W1 = w.drew.alloc (.cells ROW 234) := ⟨_, rfl⟩
  have hN : ∀ j, j < n + 1 → (W1.cell? ⟨w.heap.size, j, none⟩).isSome = true := fun j hj => by
    rw [hW1, World.cell?_alloc_at (w := w.drew) ROW _ w.heap.size j rfl, Array.getElem?_eq_getElem (by omega)]; rfl
  have hNf : ∀ j, W1.frozen? ⟨w.heap.size, j, none⟩ = false := fun j => by rw [hW1]; exact World.frozen?_alloc_at (w := w.drew) ROW _ w.heap.size j rfl
  have hOb : ∀ j v, w.cell? ⟨g, j, none⟩ = some v → W1.cell? ⟨g, j, none⟩ = some v := fun j v h => by rw [hW1, World.cell?_alloc_past (w := w.drew) _ g j hbw]; exact h
  have hOv : ∀ j v, w.cell? ⟨vb, j, none⟩ = some v → W1.cell? ⟨vb, j, none⟩ = some v := fun j v h => by rw [hW1, World.cell?_alloc_past (w := w.drew) _ vb j hvw]; exact h
  have hcpA : ∀ (W : World), (∀ x, W.cell? x = W1.cell? x) → (∀ x, W.frozen? x = W1.frozen? x) → ∀ ty dc, (Builtin.copy_ #[146, 146] ty #[.slice (some ⟨w.heap.size, i, none⟩) (n + 1 - i) dc, .slice (some ⟨vb, 0, none⟩) 1 1]).run Tryz.prog W = .ok (goInt [x].length) (W.setCells w.heap.size i [x]) := fun W hWc hWf ty dc =>
    run_copy_cells W _ _ ty 234 w.heap.size i (n + 1 - i) dc ⟨vb, 0, none⟩ 1 1 [x] Tryz.underlying146 hsz1 (by simp only [Nat.min_def, List.length_cons, List.length_nil]; split <;> omega)
      (fun j v hj => by
        rw [Addr.add_lit, hWc]
        refine hOv _ v ?_
        rw [(blk_cells hx _).1, Nat.zero_add]
        simpa using hj)
      (fun j hj => by rw [hWc]; exact hN _ (by simp at hj; omega)) (fun j hj => by rw [hWf]; exact hNf _) (fun v hv => by simp at hv; subst hv; exact h1)
  have hG63' : G ≤ 9223372036854775807 := by unfold maxLen at hG63; omega
  have hGi : ¬ (G = i) := by omega
  have hGim : ¬ (G = i + 1) := by omega
  have hci : ¬ (n = i) := by omega
  have hbN : g ≠ w.heap.size := by omega
  have hdl : (cs.drop i).length = n - i := by rw [List.length_drop, hcl]
  have hcpB : ∀ (W : World), (∀ y, W.cell? y = (W1.setCells w.heap.size i [x]).cell? y) → (∀ y, W.frozen? y = (W1.setCells w.heap.size i [x]).frozen? y) → ∀ ty dc sc, (Builtin.copy_ #[146, 146] ty #[.slice (some ⟨w.heap.size, i + 1, none⟩) (n - i) dc, .slice (some ⟨g, i, none⟩) (n - i) sc]).run Tryz.prog W = .ok (goInt (cs.drop i).length) (W.setCells w.heap.size (i + 1) (cs.drop i)) := fun W hWc hWf ty dc sc =>
    run_copy_cells W _ _ ty 234 w.heap.size (i + 1) (n - i) dc ⟨g, i, none⟩ (n - i) sc (cs.drop i) Tryz.underlying146 hsz1 (by rw [hdl]; simp only [Nat.min_def]; split <;> omega)
      (fun j v hj => by
        rw [Addr.add_lit, hWc, World.cell?_setCells_out _ _ _ _ _ (fun h _ => absurd h hbN)]
        exact hOb _ v (hcc (i + j) v (by rwa [List.getElem?_drop] at hj)))
      (fun j hj => by rw [hWc]; exact isSome_setCells _ [x] i W1 (fun t ht => hN (i + t) (by simp at ht; omega)) _ (hN _ (by rw [hdl] at hj; omega)))
      (fun j hj => by rw [hWf, World.frozen?_setCells]; exact hNf _) (fun v hv => h1c v (List.mem_of_mem_drop hv))
  subst hW1
  have hE1 : ∀ y, ((w.alloc (.cells ROW 234)).drew).cell? y = (w.drew.alloc (.cells ROW 234)).cell? y := fun x => rfl
  have hE2 : ∀ y, ((w.alloc (.cells ROW 234)).drew).frozen? y = (w.drew.alloc (.cells ROW 234)).frozen? y := fun x => rfl
  have hF1 : ∀ y, (((w.alloc (.cells ROW 234)).drew.setCells w.heap.size i [x]).drew).cell? y = ((w.drew.alloc (.cells ROW 234)).setCells w.heap.size i [x]).cell? y := fun x => rfl
  have hF2 : ∀ y, (((w.alloc (.cells ROW 234)).drew.setCells w.heap.size i [x]).drew).frozen? y = ((w.drew.alloc (.cells ROW 234)).setCells w.heap.size i [x]).frozen? y := fun x => rfl
  have hA := hcpA _ hE1 hE2
  have hB := hcpB _ hF1 hF2
  have hw1 : IntKind.i64.wrap ((i : Int) + 1) = (i : Int) + 1 := by rw [IntKind.wrap_i64]; omega
  have hb1 : (0 : Int) ≤ (i : Int) + 1 := by omega
  have hin : i ≤ n := by omega
  have htn : ((i : Int) + 1).toNat = i + 1 := by omega
  have hb3 : (i : Int) ≤ (n : Int) := by omega
  have HRL := Lib.hid hRl
  have HRT := Lib.hid hRt
  have HG63 := Lib.hid hG63
  clear hkk hik hold hROW hG hRl hRt hcpA hcpB hN hNf hOb hOv hE1 hE2 hF1 hF2 hcs hcc hcl hdl hx hcur h1c hsz hG63
  go_enter Tryz.func258, Tryz.ntmps258
  go_wp2_with (first
    | (at_builtin; refine Lib.wpList_append_run _ rfl _ _ _ _ rfl _ _ rfl rfl _ _ (hrz _) ?_)
    | (at_builtin; refine wpList_copy_runI _ rfl _ _ 146 146 rfl _ _ rfl rfl (hA _ _) ?_))
  go_region_law (refine step_copy_runI rfl _ _ 146 146 rfl (.slice (some ⟨w.heap.size, i + 1, none⟩) (n - i) (G - (i + 1))) (.slice (some ⟨g, i, none⟩) (n - i) (n - i)) (by simp [Act.eval, Act.put]) (by simp [Act.eval, Act.put]) (hB 3 (G - (i + 1)) (n - i)) ?_)
  go_wp2
  go_ret
  exact ⟨ROW, G, HRL.out, hGn, HG63.out, HRT.out, rfl, rfl⟩

theorem take_eq_cells {cur : Array Value} {n : Nat} {xs : List Value} (h : cur.toList.take n = xs) : xs.length ≤ cur.size := by
  rw [← h]; simp; omega

theorem ins_get (xs : List Value) (x : Value) (i : Nat) (hi : i ≤ xs.length) (j : Nat) (u : Value) (h : (xs.take i ++ x :: xs.drop i)[j]? = some u) :
    (j < i ∧ (xs.take i)[j]? = some u) ∨ (j = i ∧ u = x) ∨ (∃ t, j = i + 1 + t ∧ (xs.drop i)[t]? = some u) := by
  have hl : (xs.take i).length = i := by rw [List.length_take]; omega
  by_cases h1 : j < i
  · rw [List.getElem?_append_left (by omega)] at h
    exact .inl ⟨h1, h⟩
  · rw [List.getElem?_append_right (by omega), hl] at h
    by_cases h2 : j = i
    · subst h2
      simp at h
      exact .inr (.inl ⟨rfl, h.symm⟩)
    · obtain ⟨t, rfl⟩ : ∃ t, j = i + 1 + t := ⟨j - i - 1, by omega⟩
      rw [show i + 1 + t - i = t + 1 by omega, List.getElem?_cons_succ] at h
      exact .inr (.inr ⟨t, rfl, h⟩)

/-- slices.Insert of one address at place i into a row that is owned. -/
theorem Insert_any (v : Value) (n i vb : Nat) (xs : List Value) (x : Value) (w : World) (hn : n ≤ 100) (hi : i ≤ n) (hown : w.ownsRow 0 234 1 v n xs) (hx : w.heap[vb]? = some (.cells #[x] 234 (0, 0))) (h1 : x.oneCell' = true)
    (hne : v.ownBlock ≠ some vb) (h1c : ∀ u ∈ xs, u.oneCell' = true) :
    Calls Tryz.prog 258 #[v, .int .i64 i, .slice (some ⟨vb, 0, none⟩) 1 1] w (InsPost w v (n + 1) (xs.take i ++ x :: xs.drop i)) := by
  have hxl : xs.length = n := by have := hown.1; omega
  by_cases hin : i = n
  · subst hin
    rw [List.take_of_length_le (by omega), List.drop_eq_nil_of_le (by omega)]
    exact Insert_end v i vb xs x w hn hown hx h1
  · rcases hown.2 with ⟨rfl, rfl⟩ | ⟨g, cap, cur, rfl, _, hg, hnc, hcm, hcs, htk⟩
    · exact absurd (Nat.le_zero.1 hi) hin
    · rw [Nat.mul_one] at hcs htk
      have hgv : vb ≠ g := fun e => hne (by rw [e]; rfl)
      have hcells : ∀ j u, xs[j]? = some u → w.cell? ⟨g, j, none⟩ = some u := fun j u hu => by
        have := hown.cells (g := g) rfl j u hu
        rwa [show (⟨g, 0, none⟩ : Addr).add j = ⟨g, j, none⟩ from by unfold Addr.add; split <;> simp_all] at this
      by_cases hroom : n + 1 ≤ cap
      · refine (Insert_shift g n cap i vb cur x w (by omega) hn hroom hcm hg hcs hx h1 hgv (by rw [htk]; exact h1c)).mono ?_
        rintro e w' ⟨rfl, rfl⟩
        rw [htk]
        obtain ⟨c1, hc1, hs1⟩ := shape_setCells g (xs.drop i) (i + 1) w.drew cur _ hg
        obtain ⟨c2, hc2, hs2⟩ := shape_setCells g [x] i _ c1 _ hc1
        have hsome : ∀ j, j < cap → (w.drew.cell? ⟨g, j, none⟩).isSome = true := fun j hj => by
          show (w.cell? _).isSome = true
          rw [(blk_cells hg j).1, Array.getElem?_eq_getElem (by omega)]; rfl
        have hdl : (xs.drop i).length = n - i := by rw [List.length_drop]; omega
        have hsome1 : ∀ j, j < cap → ((w.drew.setCells g (i + 1) (xs.drop i)).cell? ⟨g, j, none⟩).isSome = true := fun j hj =>
          isSome_setCells g (xs.drop i) (i + 1) w.drew (fun t ht => hsome _ (by omega)) j (hsome j hj)
        refine ⟨_, rfl, own_of_cells hc2 (by omega) hroom hcm (by simp; omega) ?_, World.grownBy.trans (World.grownBy.trans (b := w.drew) ⟨rfl, rfl, rfl, Nat.le_refl _, fun _ _ _ => rfl⟩ (grown_setCells g _ _ _)) (grown_setCells g _ _ _), .inl rfl⟩
        intro j u hu
        rcases ins_get xs x i (by omega) j u hu with ⟨hj, h⟩ | ⟨rfl, rfl⟩ | ⟨t, rfl, h⟩
        · rw [World.cell?_setCells_out g [x] i _ _ (fun _ _ => .inl hj), World.cell?_setCells_out g _ _ _ _ (fun _ _ => .inl (show j < i + 1 by omega))]
          rw [List.getElem?_take, if_pos hj] at h
          exact hcells j u h
        · exact World.cell?_setCells_in g [u] j _ (fun t ht => hsome1 _ (by simp at ht; omega)) 0 (by simp)
        · have htl : t < (xs.drop i).length := by
            rcases Nat.lt_or_ge t (xs.drop i).length with h' | h'
            · exact h'
            · rw [List.getElem?_eq_none h'] at h; cases h
          rw [World.cell?_setCells_out g [x] i _ _ (fun _ _ => .inr (by simp)), World.cell?_setCells_in g (xs.drop i) (i + 1) w.drew (fun s hs => hsome _ (by omega)) t htl]
          rw [List.getElem?_eq_getElem htl] at h
          exact h
      · obtain rfl : cap = n := by omega
        refine (Insert_grow g cap i vb cur x w (by omega) hn hg hcs hx h1 (by rw [htk]; exact h1c)).mono ?_
        rintro e w' ⟨ROW, G, hRs, hnG, hGm, hRt, rfl, rfl⟩
        rw [htk] at hRt ⊢
        have hb0 : ((w.alloc (.cells ROW 234)).drew).heap[w.heap.size]? = some (.cells ROW 234 (0, 0)) := heap_alloc_new w _
        obtain ⟨c1, hc1, hs1⟩ := shape_setCells w.heap.size [x] i _ ROW _ hb0
        have hc1' : ((((w.alloc (.cells ROW 234)).drew).setCells w.heap.size i [x]).drew).heap[w.heap.size]? = some (.cells c1 234 (0, 0)) := hc1
        obtain ⟨c2, hc2, hs2⟩ := shape_setCells w.heap.size (xs.drop i) (i + 1) _ c1 _ hc1'
        have hsome : ∀ j, j < G → (((w.alloc (.cells ROW 234)).drew).cell? ⟨w.heap.size, j, none⟩).isSome = true := fun j hj => by
          rw [(blk_cells hb0 j).1, Array.getElem?_eq_getElem (by omega)]; rfl
        have hdl : (xs.drop i).length = cap - i := by rw [List.length_drop]; omega
        have hsome1 : ∀ j, j < G → (((((w.alloc (.cells ROW 234)).drew).setCells w.heap.size i [x]).drew).cell? ⟨w.heap.size, j, none⟩).isSome = true := fun j hj =>
          isSome_setCells w.heap.size [x] i _ (fun t ht => hsome _ (by simp at ht; omega)) j (hsome j hj)
        have gr : w.grownBy (((((w.alloc (.cells ROW 234)).drew).setCells w.heap.size i [x]).drew).setCells w.heap.size (i + 1) (xs.drop i)) (some g) := by
          have a1 : w.grownBy ((w.alloc (.cells ROW 234)).drew) (some g) := by
            have := World.grownBy_alloc w (.cells ROW 234) (some g)
            exact ⟨this.os, this.tape, this.output, this.size, this.block⟩
          have a2 := grown_setCells w.heap.size [x] i ((w.alloc (.cells ROW 234)).drew)
          have a3 := grown_setCells w.heap.size (xs.drop i) (i + 1) ((((w.alloc (.cells ROW 234)).drew).setCells w.heap.size i [x]).drew)
          refine ⟨?_, ?_, ?_, ?_, fun k hk hn => ?_⟩
          · exact a3.os.trans (a2.os.trans a1.os)
          · exact a3.tape.trans (a2.tape.trans a1.tape)
          · exact a3.output.trans (a2.output.trans a1.output)
          · exact Nat.le_trans a1.size (Nat.le_trans a2.size a3.size)
          · have hks : k < ((w.alloc (.cells ROW 234)).drew).heap.size := by simp; omega
            have hkn : some k ≠ some w.heap.size := fun e => by injection e with e; omega
            exact (a3.block k (Nat.lt_of_lt_of_le hks a2.size) hkn).trans ((a2.block k hks hkn).trans (a1.block k hk hn))
        refine ⟨_, rfl, own_of_cells hc2 (by omega) hnG hGm (by simp; omega) ?_, gr, .inr ⟨_, rfl, Nat.le_refl _⟩⟩
        intro j u hu
        rcases ins_get xs x i (by omega) j u hu with ⟨hj, h⟩ | ⟨rfl, rfl⟩ | ⟨t, rfl, h⟩
        · rw [World.cell?_setCells_out _ _ _ _ _ (fun _ _ => .inl (show j < i + 1 by omega))]
          show (((w.alloc (.cells ROW 234)).drew).setCells w.heap.size i [x]).cell? _ = _
          rw [World.cell?_setCells_out _ [x] i _ _ (fun _ _ => .inl hj), (blk_cells hb0 j).1]
          rw [← hRt, List.getElem?_take, if_pos hj] at h
          simpa using h
        · rw [World.cell?_setCells_out _ _ _ _ _ (fun _ _ => .inl (show j < j + 1 by omega))]
          exact World.cell?_setCells_in w.heap.size [u] j _ (fun t ht => hsome _ (by simp at ht; omega)) 0 (by simp)
        · have htl : t < (xs.drop i).length := by
            rcases Nat.lt_or_ge t (xs.drop i).length with h' | h'
            · exact h'
            · rw [List.getElem?_eq_none h'] at h; cases h
          rw [World.cell?_setCells_in w.heap.size (xs.drop i) (i + 1) _ (fun s hs => hsome1 _ (by omega)) t htl]
          rw [List.getElem?_eq_getElem htl] at h
          exact h
end Go.Proofs.YtplocldnklccfaaGreatDoor
namespace Go.Proofs.YtplocldnklccfaaGreatDoor
open Go.Lib
set_option linter.unusedVariables false
set_option linter.unusedSimpArgs false

/-- The pieces of a list between the bytes c. -/
def splitC (c : UInt8) : List UInt8 → List (List UInt8)
  | [] => [[]]
  | x :: xs => if x = c then [] :: splitC c xs else match splitC c xs with
    | [] => [[x]]
    | p :: ps => (x :: p) :: ps

theorem splitC_ne (c : UInt8) (l : List UInt8) : splitC c l ≠ [] := by
  cases l with
  | nil => simp [splitC]
  | cons x xs =>
    unfold splitC
    split
    · simp
    · split <;> simp

def upP (c : UInt8) : Prop := 65 ≤ c.toNat ∧ c.toNat ≤ 90
def nameP (c : UInt8) : Prop := (65 ≤ c.toNat ∧ c.toNat ≤ 90) ∨ (97 ≤ c.toNat ∧ c.toNat ≤ 122) ∨ (48 ≤ c.toNat ∧ c.toNat ≤ 57) ∨ c.toNat = 45
instance (c : UInt8) : Decidable (upP c) := by unfold upP; infer_instance
instance (c : UInt8) : Decidable (nameP c) := by unfold nameP; infer_instance

/-- Can it be a part of a name? -/
def partB (l : List UInt8) : Bool := decide (l.length ≤ 16) && (match l with | [] => false | c :: _ => decide (upP c)) && l.all fun c => decide (nameP c)

/-- A good name. -/
def goodB (l : List UInt8) : Bool := decide (l.length ≤ 102) && (decide ((splitC 58 l).length ≤ 6) && !(splitC 58 l).any fun p => !partB p)

theorem splitC_length (c : UInt8) (l : List UInt8) : (splitC c l).length = l.count c + 1 := by
  induction l with
  | nil => rfl
  | cons x xs ih =>
    unfold splitC
    by_cases h : x = c
    · rw [if_pos h, List.length_cons, ih, h, List.count_cons_self]
    · rw [if_neg h, List.count_cons_of_ne h]
      cases hp : splitC c xs with
      | nil => exact absurd hp (splitC_ne c xs)
      | cons p ps => rw [hp] at ih; simpa using ih

theorem index_one_cons (c x : UInt8) (xs : List UInt8) : index (x :: xs) [c] = if c = x then 0 else if index xs [c] = -1 then -1 else index xs [c] + 1 := by
  have e : index (x :: xs) [c] = if List.isPrefixOf [c] (x :: xs) then 0 else if index xs [c] == -1 then -1 else index xs [c] + 1 := rfl
  rw [e]
  by_cases h : c = x
  · subst h; simp [List.isPrefixOf]
  · simp [List.isPrefixOf, h]

theorem splitK_one (c : UInt8) : ∀ s : List UInt8, splitK [c] 0 (count s [c]) s = splitC c s
  | [] => by
    have : count [] [c] = 0 := by rw [count_one]; rfl
    rw [this]; rfl
  | x :: xs => by
    have ih := splitK_one c xs
    by_cases h : x = c
    · subst h
      rw [count_cons_eq, Nat.add_comm]
      unfold splitK splitC
      rw [index_one_cons, if_pos rfl, if_pos rfl]
      simp [ih]
    · have hn : ¬ c = x := fun e => h e.symm
      rw [count_cons_ne _ _ _ h]
      unfold splitC
      rw [if_neg h, ← ih]
      cases hk : count xs [c] with
      | zero => rfl
      | succ k =>
        have hi : index xs [c] ≠ -1 := fun e => by
          have := count_miss (sub := [c]) e
          omega
        have hg := index_ge xs [c]
        unfold splitK
        rw [index_one_cons, if_neg hn, if_neg hi]
        have h1 : ¬ (index xs [c] + 1 == -1) = true := fun e => by have := beq_iff_eq.1 e; omega
        have h2 : ¬ (index xs [c] == -1) = true := fun e => by have := beq_iff_eq.1 e; omega
        rw [if_neg h1, if_neg h2]
        have e1 : (index xs [c] + 1).toNat = (index xs [c]).toNat + 1 := by omega
        rw [e1]
        simp

theorem splitB_one (c : UInt8) (s : ByteArray) : (splitB ⟨#[c]⟩ 0 (countB s ⟨#[c]⟩) s).map (·.data.toList) = splitC c s.data.toList := by
  rw [splitB_data]
  exact splitK_one c s.data.toList

theorem partB_iff (l : List UInt8) : partB l = true ↔ (l.length ≤ 16 ∧ (∃ c r, l = c :: r ∧ upP c) ∧ ∀ c ∈ l, nameP c) := by
  unfold partB
  cases l with
  | nil => simp
  | cons c r => simp [and_assoc]
end Go.Proofs.YtplocldnklccfaaGreatDoor
namespace Go.Proofs.YtplocldnklccfaaGreatDoor
open Go.RowKit
set_option linter.unusedVariables false
set_option linter.unusedSimpArgs false

theorem part_false (s : ByteArray) (h : ¬ (1 ≤ s.size ∧ s.size ≤ 16)) : partB s.data.toList = false := by
  rw [Bool.eq_false_iff]
  intro e
  obtain ⟨h1, ⟨c, r, h2, _⟩, _⟩ := (partB_iff _).1 e
  rw [data_len] at h1
  have := congrArg List.length h2
  rw [data_len] at this
  simp at this
  omega
theorem part_false_up (s : ByteArray) (h1 : 1 ≤ s.size) (h : ¬ upP s[0]) : partB s.data.toList = false := by
  rw [Bool.eq_false_iff]
  intro e
  obtain ⟨_, ⟨c, r, h2, h3⟩, _⟩ := (partB_iff _).1 e
  have e0 := data_get s 0 h1
  simp only [h2, List.getElem_cons_zero] at e0
  subst e0
  exact h h3
theorem part_false_name (s : ByteArray) (k : Nat) (hk : k < s.size) (h : ¬ nameP s[k]) : partB s.data.toList = false := by
  rw [Bool.eq_false_iff]
  intro e
  obtain ⟨_, _, h3⟩ := (partB_iff _).1 e
  apply h
  rw [← data_get s k hk]
  exact h3 _ (List.getElem_mem _)
theorem part_true (s : ByteArray) (h1 : 1 ≤ s.size) (h2 : s.size ≤ 16) (hu : upP s[0]) (h : ∀ k (hk : k < s.size), nameP s[k]) : partB s.data.toList = true := by
  rw [partB_iff, data_len]
  refine ⟨h2, ?_, ?_⟩
  · have hl : 0 < s.data.toList.length := by rw [data_len]; exact h1
    refine ⟨s.data.toList[0], s.data.toList.drop 1, ?_, hu⟩
    rw [List.getElem_cons_drop]; rfl
  · intro c hc
    obtain ⟨k, hk, rfl⟩ := List.getElem_of_mem hc
    exact h k (by rw [data_len] at hk; exact hk)

structure PartInv (s : ByteArray) (i : Value) (k : Nat) : Prop where
  le : k ≤ s.size
  at_ : i = .int .i64 (k : Int)
  all : ∀ j (hj : j < s.size), j < k → nameP s[j]

set_option maxHeartbeats 2000000 in
theorem part_any (s : ByteArray) (w : World) (hm : s.size ≤ maxLen) :
    Calls Tryz.prog 24 #[.string s] w fun e w' => e = .returned (.bool (partB s.data.toList)) ∧ w = w' := by
  unfold maxLen at hm
  by_cases hs : 1 ≤ s.size ∧ s.size ≤ 16
  · obtain ⟨h1, h2⟩ := hs
    have h' : ¬ ((s.size : Int) < 1) := by omega
    have h'' : ¬ ((16 : Int) < s.size) := by omega
    by_cases hu : upP s[0]
    · have HU := Lib.hid hu
      unfold upP at hu
      have ha : 65 ≤ ((s[0]).toNat : Int) := by omega
      have hb : ((s[0]).toNat : Int) ≤ 90 := by omega
      clear hu
      obtain ⟨R, hR⟩ : ∃ R : Bool, R = partB s.data.toList := ⟨_, rfl⟩
      rw [← hR]
      have HR := Lib.hid hR
      clear hR
      go_enter Tryz.func24, Tryz.ntmps24
      go_wp2
      go_loop [25] (fun i => ∃ k : Nat, PartInv s i k) (fun i => s.size - (intOf i).toNat)
      case atStart => exact ⟨0, Nat.zero_le _, rfl, fun _ _ h => absurd h (by omega)⟩
      case round =>
        obtain ⟨k, hk, rfl, hall⟩ := hrel
        have HA := Lib.hid hall
        clear hall
        by_cases hlt : k < s.size
        · have hc : (65 ≤ (s[k].toNat : Int) ∧ (s[k].toNat : Int) ≤ 90) ∨ (97 ≤ (s[k].toNat : Int) ∧ (s[k].toNat : Int) ≤ 122) ∨ (48 ≤ (s[k].toNat : Int) ∧ (s[k].toNat : Int) ≤ 57) ∨ (s[k].toNat : Int) = 45 ∨ ¬ nameP s[k] := by
            unfold nameP; omega
          have fin : nameP s[k] → PartInv s (.int .i64 ((k : Int) + 1)) (k + 1) := fun hn => ⟨by omega, by simp, fun j hj hjk => by
            by_cases e : j = k
            · subst e; exact hn
            · exact HA.out j hj (by omega)⟩
          have FIN := Lib.hid fin
          clear fin
          rcases hc with ⟨a, b⟩ | ⟨a, b⟩ | ⟨a, b⟩ | a | hno
          · have hn : Hid (nameP s[k]) := by show nameP _; unfold nameP; omega
            go_wp2
            go_round
            case rel => exact ⟨k + 1, FIN.out hn.out⟩
            case measure => simp [intOf]; omega
          · have hn : Hid (nameP s[k]) := by show nameP _; unfold nameP; omega
            go_wp2
            go_round
            case rel => exact ⟨k + 1, FIN.out hn.out⟩
            case measure => simp [intOf]; omega
          · have hn : Hid (nameP s[k]) := by show nameP _; unfold nameP; omega
            go_wp2
            go_round
            case rel => exact ⟨k + 1, FIN.out hn.out⟩
            case measure => simp [intOf]; omega
          · have hn : Hid (nameP s[k]) := by show nameP _; unfold nameP; omega
            go_wp2
            go_round
            case rel => exact ⟨k + 1, FIN.out hn.out⟩
            case measure => simp [intOf]; omega
          · have hf := part_false_name s k hlt hno
            have HF : Hid (R = false) := by show R = false; rw [HR.out, hf]
            clear hf
            have hb : ((s[k].toNat : Int) == 45) = false := by
              rw [beq_eq_false_iff_ne]
              intro e
              exact hno (by unfold nameP; omega)
            have hno' : (s[k].toNat : Int) < 48 ∨ (57 < (s[k].toNat : Int) ∧ (s[k].toNat : Int) < 65) ∨ (90 < (s[k].toNat : Int) ∧ (s[k].toNat : Int) < 97) ∨ 122 < (s[k].toNat : Int) := by
              unfold nameP at hno; omega
            clear hno
            rcases hno' with a | ⟨a, b⟩ | ⟨a, b⟩ | a
            all_goals
              go_wp2
              all_goals first | (go_ret; rw [HF.out]; exact ⟨rfl, rfl⟩) | (exfalso; simp at *; omega)
        · have ht := part_true s h1 h2 HU.out (fun j hj => HA.out j hj (by omega))
          have HT : Hid (R = true) := by show R = true; rw [HR.out, ht]
          clear ht
          go_wp2
          go_ret
          rw [HT.out]
          exact ⟨rfl, rfl⟩
    · rw [part_false_up s h1 hu]
      unfold upP at hu
      by_cases ha : ((s[0]).toNat : Int) < 65
      · clear hu
        go_enter Tryz.func24, Tryz.ntmps24
        go_wp2
        go_ret
        exact ⟨rfl, rfl⟩
      · have hb : 90 < ((s[0]).toNat : Int) := by omega
        clear hu
        go_enter Tryz.func24, Tryz.ntmps24
        go_wp2
        go_ret
        exact ⟨rfl, rfl⟩
  · rw [part_false s hs]
    by_cases h : (s.size : Int) < 1
    · go_enter Tryz.func24, Tryz.ntmps24
      go_wp2
      go_ret
      exact ⟨rfl, rfl⟩
    · have h' : ((16 : Int) < s.size) := by omega
      go_enter Tryz.func24, Tryz.ntmps24
      go_wp2
      go_ret
      exact ⟨rfl, rfl⟩
end Go.Proofs.YtplocldnklccfaaGreatDoor
namespace Go.Proofs.YtplocldnklccfaaGreatDoor
open Go.RowKit
set_option linter.unusedVariables false
set_option linter.unusedSimpArgs false

structure Acct where
  name : ByteArray
  typ : Int
  opened : Int
  closed : Bool

/-- What stands above a name. -/
def parentF (n : ByteArray) : Option ByteArray :=
  if goodB n.data.toList = true ∧ 0 ≤ Lib.lastIndexByte n 58 then some (n.extract 0 (Lib.lastIndexByte n 58).toNat) else none

def findA (L : List Acct) (n : ByteArray) : Option Acct := L.find? fun a => decide (a.name = n)
def kidsA (L : List Acct) (n : ByteArray) : List Acct := L.filter fun a => decide (parentF a.name = some n)
def rootsA (L : List Acct) : List Acct := L.filter fun a => decide (parentF a.name = none)

theorem findA_some {L : List Acct} {n : ByteArray} {a : Acct} (h : findA L n = some a) : a ∈ L ∧ a.name = n := by
  unfold findA at h
  exact ⟨List.mem_of_find?_eq_some h, by simpa using List.find?_some h⟩

def ptrV (b : Nat) : Value := .pointer (some ⟨b, 0, none⟩)

/-- How a chart lies in memory: mb the map's block, rv the list of roots, nb an account's block, kv the list of those right below it, ps the map's entries; F holds all blocks of the chart. -/
structure CR (w : World) (F : Nat → Prop) (cb : Nat) (L : List Acct) (mb : Nat) (rv : Value) (nb : ByteArray → Nat) (kv : ByteArray → Value) (ps : List (ByteArray × Value)) : Prop where
  hC : w.heap[cb]? = some (.cells #[.map (some mb), rv] 148 (0, 0))
  hM : StrMap w mb ps
  hps : ∀ k, getP k ps = (findA L k).map fun a => ptrV (nb a.name)
  hlen : ps.length = L.length
  le : L.length ≤ 100
  hN : ∀ a ∈ L, w.heap[nb a.name]? = some (.cells #[.string a.name, .int .i64 a.typ, .int .i64 a.opened, .bool a.closed, kv a.name] 236 (0, 0))
  hK : ∀ a ∈ L, w.ownsRow 0 234 1 (kv a.name) (kidsA L a.name).length ((kidsA L a.name).map fun b => ptrV (nb b.name))
  hR : w.ownsRow 0 234 1 rv (rootsA L).length ((rootsA L).map fun b => ptrV (nb b.name))
  fC : F cb
  fM : F mb
  fN : ∀ a ∈ L, F (nb a.name)
  fK : ∀ a ∈ L, ∀ k, (kv a.name).ownBlock = some k → F k
  fR : ∀ k, rv.ownBlock = some k → F k
  inj : ∀ a ∈ L, ∀ b ∈ L, nb a.name = nb b.name → a.name = b.name
  dK : ∀ a ∈ L, ∀ b ∈ L, a.name ≠ b.name → ∀ k, (kv a.name).ownBlock = some k → (kv b.name).ownBlock ≠ some k
  dR : ∀ a ∈ L, ∀ k, (kv a.name).ownBlock = some k → rv.ownBlock ≠ some k

structure ChartAt (w : World) (F : Nat → Prop) (cb : Nat) (L : List Acct) : Prop where
  ex : ∃ mb rv nb kv ps, CR w F cb L mb rv nb kv ps

theorem ownsRow_keep {w w' : World} {B e size n : Nat} {v : Value} {xs : List Value} (h : w.ownsRow B e size v n xs) (hk : ∀ k, v.ownBlock = some k → w'.heap[k]? = w.heap[k]?) : w'.ownsRow B e size v n xs := by
  refine ⟨h.1, ?_⟩
  rcases h.2 with hn | ⟨g, cap, cur, rfl, hb, hg, r⟩
  · exact .inl hn
  · exact .inr ⟨g, cap, cur, rfl, hb, (hk g rfl).trans hg, r⟩

/-- What is not touched lives on. -/
theorem CR.keep {w w' : World} {F : Nat → Prop} {cb mb : Nat} {L : List Acct} {rv : Value} {nb : ByteArray → Nat} {kv : ByteArray → Value} {ps : List (ByteArray × Value)}
    (h : CR w F cb L mb rv nb kv ps) (hk : ∀ k, F k → k < w.heap.size → w'.heap[k]? = w.heap[k]?) : CR w' F cb L mb rv nb kv ps where
  hC := (hk cb h.fC (heap_lt h.hC)).trans h.hC
  hM := h.hM.keep (hk mb h.fM h.hM.lt)
  hps := h.hps
  hlen := h.hlen
  le := h.le
  hN := fun a ha => (hk _ (h.fN a ha) (heap_lt (h.hN a ha))).trans (h.hN a ha)
  hK := fun a ha => ownsRow_keep (h.hK a ha) fun k e => hk k (h.fK a ha k e) ((h.hK a ha).lt k e).2
  hR := ownsRow_keep h.hR fun k e => hk k (h.fR k e) (h.hR.lt k e).2
  fC := h.fC
  fM := h.fM
  fN := h.fN
  fK := h.fK
  fR := h.fR
  inj := h.inj
  dK := h.dK
  dR := h.dR
theorem ChartAt.keep {w w' : World} {F : Nat → Prop} {cb : Nat} {L : List Acct} (h : ChartAt w F cb L) (hk : ∀ k, F k → k < w.heap.size → w'.heap[k]? = w.heap[k]?) : ChartAt w' F cb L := by
  obtain ⟨mb, rv, nb, kv, ps, h⟩ := h
  exact ⟨mb, rv, nb, kv, ps, h.keep hk⟩
theorem ChartAt.ch {w w' : World} {F G : Nat → Prop} {cb : Nat} {L : List Acct} (h : ChartAt w F cb L) (hc : Ch G w w') (hd : ∀ k, F k → ¬ G k) : ChartAt w' F cb L :=
  h.keep fun k hf hl => hc.block k hl (hd k hf)
theorem ChartAt.below {w w' : World} {F : Nat → Prop} {cb : Nat} {L : List Acct} (h : ChartAt w F cb L) (hb : Below w.heap.size w w') : ChartAt w' F cb L :=
  h.keep fun k hf hl => hb.block k hl

theorem CR.lookup {w : World} {F : Nat → Prop} {cb mb : Nat} {L : List Acct} {rv : Value} {nb : ByteArray → Nat} {kv : ByteArray → Value} {ps : List (ByteArray × Value)}
    (h : CR w F cb L mb rv nb kv ps) (n : ByteArray) :
    Sem.run Tryz.prog (Instr.lookup 145 (.map (some mb)) (.string n) false) w = .ok (match findA L n with | some a => ptrV (nb a.name) | none => .pointer none) w := by
  rw [run_lookup_strmap h.hM Tryz.underlying145 Tryz.underlying9 Tryz.zeroValue234 n, h.hps n]
  cases findA L n <;> rfl
end Go.Proofs.YtplocldnklccfaaGreatDoor
namespace Go.Proofs.YtplocldnklccfaaGreatDoor
open Go.RowKit
set_option linter.unusedVariables false
set_option linter.unusedSimpArgs false

/-- Two names by their bytes: below 0, 0, above 0. -/
def cmpB (a b : ByteArray) : Int := Lib.compareBytes a.data.toList b.data.toList

theorem cmpL_self : ∀ l : List UInt8, Lib.compareBytes l l = 0
  | [] => rfl
  | a :: l => by simp [Lib.compareBytes, cmpL_self l]
theorem cmpL_range : ∀ l m : List UInt8, Lib.compareBytes l m = -1 ∨ Lib.compareBytes l m = 0 ∨ Lib.compareBytes l m = 1
  | [], [] => by simp [Lib.compareBytes]
  | [], _ :: _ => by simp [Lib.compareBytes]
  | _ :: _, [] => by simp [Lib.compareBytes]
  | a :: l, b :: m => by
    unfold Lib.compareBytes
    split
    · simp
    · split
      · simp
      · exact cmpL_range l m
theorem cmpL_eq0 : ∀ l m : List UInt8, Lib.compareBytes l m = 0 → l = m
  | [], [] => by simp
  | [], _ :: _ => by simp [Lib.compareBytes]
  | _ :: _, [] => by simp [Lib.compareBytes]
  | a :: l, b :: m => by
    unfold Lib.compareBytes
    intro h
    split at h
    · simp at h
    · split at h
      · simp at h
      · rename_i h1 h2
        have e : a = b := by
          apply UInt8.toNat_inj.1
          simp [UInt8.lt_iff_toNat_lt] at h1 h2
          omega
        rw [e, cmpL_eq0 l m h]
theorem cmpL_swap : ∀ l m : List UInt8, Lib.compareBytes l m = - Lib.compareBytes m l
  | [], [] => by simp [Lib.compareBytes]
  | [], _ :: _ => by simp [Lib.compareBytes]
  | _ :: _, [] => by simp [Lib.compareBytes]
  | a :: l, b :: m => by
    have ih := cmpL_swap l m
    unfold Lib.compareBytes
    by_cases h1 : a < b
    · have h2 : ¬ b < a := by simp [UInt8.lt_iff_toNat_lt] at h1 ⊢; omega
      simp [h1, h2]
    · by_cases h2 : b < a
      · simp [h1, h2]
      · simp [h1, h2, ih]
theorem cmpL_trans : ∀ l m k : List UInt8, Lib.compareBytes l m < 0 → Lib.compareBytes m k < 0 → Lib.compareBytes l k < 0
  | l, [], _ => by cases l <;> simp [Lib.compareBytes]
  | [], _ :: _, [] => by simp [Lib.compareBytes]
  | [], _ :: _, _ :: _ => by simp [Lib.compareBytes]
  | _ :: _, _ :: _, [] => by simp [Lib.compareBytes]
  | a :: l, b :: m, c :: k => by
    have ih := cmpL_trans l m k
    intro h1 h2
    unfold Lib.compareBytes at h1 h2 ⊢
    simp only [UInt8.lt_iff_toNat_lt] at h1 h2 ⊢
    split at h1
    · split at h2
      · rw [if_pos (by omega)]; decide
      · split at h2
        · simp at h2
        · rw [if_pos (by omega)]; decide
    · split at h1
      · simp at h1
      · split at h2
        · rw [if_pos (by omega)]; decide
        · split at h2
          · simp at h2
          · rw [if_neg (by omega), if_neg (by omega)]
            exact ih h1 h2

theorem cmp_self (a : ByteArray) : cmpB a a = 0 := cmpL_self _
theorem cmp_eq0 {a b : ByteArray} (h : cmpB a b = 0) : a = b := by
  have := cmpL_eq0 _ _ h
  cases a with
  | mk x => cases b with
    | mk y => congr; exact Array.toList_inj.1 this
theorem cmp_swap (a b : ByteArray) : cmpB a b = - cmpB b a := cmpL_swap _ _
theorem cmp_trans {a b c : ByteArray} (h1 : cmpB a b < 0) (h2 : cmpB b c < 0) : cmpB a c < 0 := cmpL_trans _ _ _ h1 h2
theorem cmp_total {a b : ByteArray} (h : a ≠ b) : cmpB a b < 0 ∨ cmpB b a < 0 := by
  have h1 := cmp_swap a b
  have h0 : cmpB a b ≠ 0 := fun e => h (cmp_eq0 e)
  omega
theorem cmp_ne {a b : ByteArray} (h : cmpB a b < 0) : a ≠ b := fun e => by subst e; rw [cmp_self] at h; omega

/-- Rising by name. -/
def Rising (L : List Acct) : Prop := L.Pairwise fun x y => cmpB x.name y.name < 0

/-- One more into a rising list. -/
def insA (a : Acct) : List Acct → List Acct
  | [] => [a]
  | b :: r => if cmpB b.name a.name < 0 then b :: insA a r else a :: b :: r

theorem insA_cons (a b : Acct) (r : List Acct) : insA a (b :: r) = if cmpB b.name a.name < 0 then b :: insA a r else a :: b :: r := rfl
theorem mem_insA {a x : Acct} : ∀ {L : List Acct}, x ∈ insA a L ↔ x = a ∨ x ∈ L
  | [] => by simp [insA]
  | b :: r => by
    unfold insA
    split
    · simp [mem_insA (L := r)]
      constructor
      · rintro (h | h | h) <;> simp [h]
      · rintro (h | h | h) <;> simp [h]
    · simp
theorem length_insA (a : Acct) : ∀ L : List Acct, (insA a L).length = L.length + 1
  | [] => rfl
  | b :: r => by
    unfold insA
    split
    · simp [length_insA a r]
    · simp

theorem insA_low {a : Acct} : ∀ {L : List Acct}, (∀ b ∈ L, 0 ≤ cmpB b.name a.name) → insA a L = a :: L
  | [], _ => rfl
  | b :: r, h => by
    unfold insA
    rw [if_neg (by have := h b (by simp); omega)]

theorem rising_insA {a : Acct} : ∀ {L : List Acct}, Rising L → (∀ b ∈ L, b.name ≠ a.name) → Rising (insA a L)
  | [], _, _ => by simp [Rising, insA]
  | b :: r, h, hn => by
    obtain ⟨h1, h2⟩ := List.pairwise_cons.1 h
    unfold insA
    split
    · rename_i hb
      refine List.pairwise_cons.2 ⟨fun x hx => ?_, rising_insA h2 fun c hc => hn c (by simp [hc])⟩
      rcases mem_insA.1 hx with rfl | hx
      · exact hb
      · exact h1 x hx
    · rename_i hb
      have hab : cmpB a.name b.name < 0 := by
        rcases cmp_total (hn b (by simp)) with h | h
        · exact absurd h hb
        · exact h
      refine List.pairwise_cons.2 ⟨fun x hx => ?_, h⟩
      rcases List.mem_cons.1 hx with rfl | hx
      · exact hab
      · exact cmp_trans hab (h1 x hx)

theorem filter_insA (p : Acct → Bool) (a : Acct) : ∀ L : List Acct, Rising L → (insA a L).filter p = if p a then insA a (L.filter p) else L.filter p
  | [], _ => by
    by_cases hp : p a <;> simp [insA, hp]
  | b :: r, h => by
    obtain ⟨h1, h2⟩ := List.pairwise_cons.1 h
    have ih := filter_insA p a r h2
    rw [insA_cons]
    by_cases hb : cmpB b.name a.name < 0
    · rw [if_pos hb]
      by_cases hpb : p b
      · by_cases hp : p a
        · simp [hpb, hp, ih, insA_cons, hb]
        · simp [hpb, hp, ih]
      · by_cases hp : p a
        · simp [hpb, hp, ih]
        · simp [hpb, hp, ih]
    · rw [if_neg hb]
      have hlow : ∀ c ∈ (b :: r).filter p, 0 ≤ cmpB c.name a.name := fun c hc => by
        rcases List.mem_cons.1 (List.mem_filter.1 hc).1 with rfl | hc'
        · omega
        · rcases Int.lt_or_le (cmpB c.name a.name) 0 with hlt | hge
          · exact absurd (cmp_trans (h1 c hc') hlt) hb
          · exact hge
      by_cases hp : p a
      · rw [if_pos hp, insA_low hlow, List.filter_cons, if_pos hp]
      · rw [if_neg hp, List.filter_cons, if_neg hp]

theorem find_insA {a : Acct} {k : ByteArray} : ∀ {L : List Acct}, (∀ b ∈ L, b.name ≠ a.name) → findA (insA a L) k = if a.name = k then some a else findA L k
  | [], _ => by
    by_cases h : a.name = k <;> simp [findA, insA, h]
  | b :: r, hn => by
    have ih := find_insA (a := a) (k := k) (L := r) fun c hc => hn c (by simp [hc])
    have hb := hn b (by simp)
    unfold findA at ih ⊢
    rw [insA_cons]
    split
    · by_cases hbk : b.name = k
      · have : ¬ a.name = k := fun e => hb (by rw [hbk, e])
        simp [hbk, this]
      · simp only [List.find?_cons, hbk, decide_false]
        exact ih
    · by_cases h : a.name = k
      · simp [h]
      · simp [h]

theorem insA_at (a : Acct) : ∀ (L : List Acct) (i : Nat), i ≤ L.length → (∀ j (hj : j < L.length), j < i → cmpB L[j].name a.name < 0) → (∀ j (hj : j < L.length), i ≤ j → 0 ≤ cmpB L[j].name a.name) →
    insA a L = L.take i ++ a :: L.drop i
  | L, 0, _, _, h => by
    rw [insA_low]
    · simp
    · intro b hb
      obtain ⟨j, hj, rfl⟩ := List.getElem_of_mem hb
      exact h j hj (Nat.zero_le _)
  | [], i + 1, hi, _, _ => by simp at hi
  | b :: r, i + 1, hi, h1, h2 => by
    have hb : cmpB b.name a.name < 0 := h1 0 (by simp) (by omega)
    rw [insA_cons, if_pos hb]
    rw [insA_at a r i (by simpa using hi) (fun j hj hlt => h1 (j + 1) (by simpa using hj) (by omega)) (fun j hj hle => h2 (j + 1) (by simpa using hj) (by omega))]
    simp

theorem find_mem {L : List Acct} {a : Acct} (hr : Rising L) (ha : a ∈ L) : findA L a.name = some a := by
  unfold findA
  induction L with
  | nil => simp at ha
  | cons b r ih =>
    obtain ⟨h1, h2⟩ := List.pairwise_cons.1 hr
    rcases List.mem_cons.1 ha with rfl | ha
    · simp
    · have : ¬ b.name = a.name := cmp_ne (h1 a ha)
      simp [this, ih h2 ha]
theorem find_none {L : List Acct} {k : ByteArray} (h : findA L k = none) : ∀ b ∈ L, b.name ≠ k := by
  intro b hb
  have := List.find?_eq_none.1 h b hb
  simpa using this
theorem rising_filter {L : List Acct} (p : Acct → Bool) (h : Rising L) : Rising (L.filter p) := h.filter p
theorem rising_get {L : List Acct} (h : Rising L) {i j : Nat} (hj : j < L.length) (hij : i < j) : cmpB (L[i]'(by omega)).name L[j].name < 0 := List.pairwise_iff_getElem.1 h i j (by omega) hj hij
end Go.Proofs.YtplocldnklccfaaGreatDoor
namespace Go.Proofs.YtplocldnklccfaaGreatDoor
open Go.RowKit
set_option linter.unusedVariables false
set_option linter.unusedSimpArgs false

set_option maxRecDepth 100000 in
theorem order_any (na nb : Nat) (a b : ByteArray) (w : World) (ha : w.cell? ⟨na, 0, none⟩ = some (.string a)) (hb : w.cell? ⟨nb, 0, none⟩ = some (.string b)) :
    Calls Tryz.prog 257 #[.pointer (some ⟨na, 0, none⟩), .pointer (some ⟨nb, 0, none⟩)] w fun e w' => e = .returned (.int .i64 (cmpB a b)) ∧ ∃ q, w' = w.drewN q := by
  go_enter Tryz.func257, Tryz.ntmps257
  go_wp2
  go_quiet ((go_at_call 218; exact Calls.quiet_of_same (Tryz.strings_Compare a b _)))
  go_wp2
  go_ret
  exact ⟨rfl, _, rfl⟩

structure SearchRes (ns : List ByteArray) (t : ByteArray) (w : World) (e : Ending) (w' : World) : Prop where
  val : ∃ (i : Nat) (f : Bool), i ≤ ns.length ∧ (∀ j (hj : j < ns.length), j < i → cmpB ns[j] t < 0) ∧ (∀ j (hj : j < ns.length), i ≤ j → 0 ≤ cmpB ns[j] t) ∧ e = .returned (.tuple #[.int .i64 i, .bool f])
  drew : ∃ q, w' = w.drewN q

structure SearchInv (ns : List ByteArray) (t : ByteArray) (w : World) (i j : Value) (wr : World) (a b : Nat) : Prop where
  ab : a ≤ b
  bl : b ≤ ns.length
  ia : i = .int .i64 (a : Int)
  jb : j = .int .i64 (b : Int)
  lo : ∀ k (hk : k < ns.length), k < a → cmpB ns[k] t < 0
  hi : ∀ k (hk : k < ns.length), b ≤ k → 0 ≤ cmpB ns[k] t
  drew : ∃ q, wr = w.drewN q

set_option maxRecDepth 100000 in
set_option maxHeartbeats 2000000 in
theorem search_any (ns : List ByteArray) (nb : ByteArray → Nat) (A : Option Addr) (c tb : Nat) (t : ByteArray) (w : World) (hn : ns.length ≤ 100)
    (hA : ∀ j (hj : j < ns.length), ∃ ad, A = some ad ∧ w.cell? (ad.add j) = some (.pointer (some ⟨nb ns[j], 0, none⟩)))
    (hN : ∀ j (hj : j < ns.length), w.cell? ⟨nb ns[j], 0, none⟩ = some (.string ns[j])) (ht : w.cell? ⟨tb, 0, none⟩ = some (.string t))
    (hmono : ∀ i j (hi : i < ns.length) (hj : j < ns.length), i ≤ j → cmpB ns[j] t < 0 → cmpB ns[i] t < 0) :
    Calls Tryz.prog 256 #[.slice A ns.length c, .pointer (some ⟨tb, 0, none⟩), .func (.func 257) #[] #[]] w (SearchRes ns t w) := by
  have HA := Lib.hid hA
  have HN := Lib.hid hN
  have HT := Lib.hid ht
  have HM := Lib.hid hmono
  clear hA hN ht hmono
  go_enter Tryz.func256, Tryz.ntmps256
  go_wp2
  go_loopw [9, 10] (fun i j wr => ∃ a b, SearchInv ns t w i j wr a b) (fun i j _ => ((intOf j).toNat - (intOf i).toNat))
  case atStart => exact ⟨0, ns.length, Nat.zero_le _, Nat.le_refl _, rfl, rfl, fun _ _ h => absurd h (by omega), fun _ _ h => absurd h (by omega), 0, rfl⟩
  case round =>
    obtain ⟨a, b, hab, hbl, rfl, rfl, hlo, hhi, q, rfl⟩ := hrel
    have HLO := Lib.hid hlo
    have HHI := Lib.hid hhi
    clear hlo hhi
    by_cases hlt : a < b
    · obtain ⟨h, hh⟩ : ∃ h, h = (a + b) / 2 := ⟨_, rfl⟩
      have h1 : a ≤ h := by omega
      have h2 : h < b := by omega
      have hnl : h < ns.length := by omega
      obtain ⟨ad, rfl, hc0⟩ := HA.out h hnl
      have hnm := HN.out h hnl
      obtain ⟨s, hs⟩ : ∃ s, s = ns[h] := ⟨_, rfl⟩
      rw [← hs] at hc0 hnm
      have hcq : (w.drewN q).cell? (ad.add h) = some (.pointer (some ⟨nb s, 0, none⟩)) := hc0
      have hord := order_any (nb s) tb s t (w.drewN q) hnm HT.out
      have HS := Lib.hid hs
      have HH := Lib.hid hh
      clear hs hc0 hnm hh
      have eh : ((a : Int) + (b : Int)) / 2 = (h : Int) := by rw [HH.out]; omega
      by_cases hc : cmpB s t < 0
      · go_wp2_with (go_at_call 257; refine hord.mono ?_; rintro e w' ⟨rfl, q2, rfl⟩)
        go_roundw
        case rel => exact ⟨h + 1, b, by omega, hbl, by go_num, rfl, fun k hk hlt' => by
            have hm := HM.out k h hk hnl (by omega)
            rw [← HS.out] at hm
            exact hm hc, HHI.out, q + q2, rfl⟩
        case measure => simp only [intOf]; omega
      · go_wp2_with (go_at_call 257; refine hord.mono ?_; rintro e w' ⟨rfl, q2, rfl⟩)
        go_roundw
        case rel => exact ⟨a, h, by omega, by omega, rfl, rfl, HLO.out, fun k hk hle => by
            have hm := HM.out h k hnl hk hle
            rw [← HS.out] at hm
            omega, q + q2, rfl⟩
        case measure => simp only [intOf]; omega
    · obtain rfl : a = b := by omega
      by_cases hal : a < ns.length
      · obtain ⟨ad, rfl, hc0⟩ := HA.out a hal
        have hnm := HN.out a hal
        obtain ⟨s, hs⟩ : ∃ s, s = ns[a] := ⟨_, rfl⟩
        rw [← hs] at hc0 hnm
        have hcq : (w.drewN q).cell? (ad.add a) = some (.pointer (some ⟨nb s, 0, none⟩)) := hc0
        have hord := order_any (nb s) tb s t (w.drewN q) hnm HT.out
        have HS := Lib.hid hs
        clear hs hc0 hnm
        have hd : decide ((a : Int) < (ns.length : Int)) = true := decide_eq_true (by omega)
        go_wp2_with (go_at_call 257; refine hord.mono ?_; rintro e w' ⟨rfl, q2, rfl⟩)
        go_ret2
        exact ⟨⟨a, _, by omega, HLO.out, HHI.out, rfl⟩, q + q2, rfl⟩
      · have hd : decide ((a : Int) < (ns.length : Int)) = false := decide_eq_false (by omega)
        go_wp2_with fail
        go_ret2
        exact ⟨⟨a, _, by omega, HLO.out, HHI.out, rfl⟩, q, rfl⟩
end Go.Proofs.YtplocldnklccfaaGreatDoor
namespace Go.Proofs.YtplocldnklccfaaGreatDoor
open Go.RowKit
set_option linter.unusedVariables false
set_option linter.unusedSimpArgs false

theorem own_slice2 {w : World} {B e n : Nat} {v : Value} {xs : List Value} (h : w.ownsRow B e 1 v n xs) : ∃ A c, v = .slice A n c ∧ ∀ j u, xs[j]? = some u → ∃ ad, A = some ad ∧ w.cell? (ad.add j) = some u := by
  rcases h.2 with ⟨rfl, rfl⟩ | ⟨g, cap, cur, rfl, hb, hg, r⟩
  · have hx : xs = [] := by simpa using h.1
    subst hx
    exact ⟨none, 0, rfl, fun j u hu => by simp at hu⟩
  · exact ⟨_, cap, rfl, fun j u hu => ⟨_, rfl, h.cells (g := g) rfl j u hu⟩⟩

structure PutPost (ns : List ByteArray) (ps : List Value) (t : ByteArray) (p : Value) (w : World) (v : Value) (e : Ending) (w' : World) : Prop where
  ex : ∃ i v', i ≤ ns.length ∧ (∀ j (hj : j < ns.length), j < i → cmpB ns[j] t < 0) ∧ (∀ j (hj : j < ns.length), i ≤ j → 0 ≤ cmpB ns[j] t) ∧ e = .returned v' ∧
    w'.ownsRow 0 234 1 v' (ns.length + 1) (ps.take i ++ p :: ps.drop i) ∧ w.grownBy w' v.ownBlock ∧ (v'.ownBlock = v.ownBlock ∨ ∃ k, v'.ownBlock = some k ∧ w.heap.size ≤ k)

set_option maxRecDepth 100000 in
set_option maxHeartbeats 1000000 in
theorem put_any (ns : List ByteArray) (nb : ByteArray → Nat) (v : Value) (tb : Nat) (t : ByteArray) (w : World) (hn : ns.length ≤ 99)
    (hown : w.ownsRow 0 234 1 v ns.length (ns.map fun s => .pointer (some ⟨nb s, 0, none⟩)))
    (hN : ∀ j (hj : j < ns.length), w.cell? ⟨nb ns[j], 0, none⟩ = some (.string ns[j])) (ht : w.cell? ⟨tb, 0, none⟩ = some (.string t))
    (hmono : ∀ i j (hi : i < ns.length) (hj : j < ns.length), i ≤ j → cmpB ns[j] t < 0 → cmpB ns[i] t < 0) :
    Calls Tryz.prog 247 #[v, .pointer (some ⟨tb, 0, none⟩)] w (PutPost ns (ns.map fun s => .pointer (some ⟨nb s, 0, none⟩)) t (.pointer (some ⟨tb, 0, none⟩)) w v) := by
  obtain ⟨A, c, rfl, hcell⟩ := own_slice2 hown
  have hs := search_any ns nb A c tb t w (by omega) (fun j hj => hcell j _ (by simp [hj])) hN ht hmono
  have HO := Lib.hid hown
  clear hown hcell hN ht hmono
  go_enter Tryz.func247, Tryz.ntmps247
  go_wp2_with (go_at_call 256; refine hs.mono ?_; rintro e w' ⟨⟨i, f, hi, hlo, hhi, rfl⟩, q, rfl⟩; have HLO := Lib.hid hlo; have HHI := Lib.hid hhi; clear hlo hhi)
  have ho : ((w.drewN q).alloc (.cells #[.pointer (some ⟨tb, 0, none⟩)] 234)).ownsRow 0 234 1 (.slice A ns.length c) ns.length (ns.map fun s => .pointer (some ⟨nb s, 0, none⟩)) := by
    have : (w.drewN q).ownsRow 0 234 1 (.slice A ns.length c) ns.length (ns.map fun s => .pointer (some ⟨nb s, 0, none⟩)) := HO.out
    exact this.alloc _
  have hnew := heap_alloc_new (w.drewN q) (.cells #[.pointer (some ⟨tb, 0, none⟩)] 234)
  have hlt := fun k hk => (HO.out.lt k hk).2
  have hins := Insert_any (.slice A ns.length c) ns.length i w.heap.size (ns.map fun s => .pointer (some ⟨nb s, 0, none⟩)) (.pointer (some ⟨tb, 0, none⟩)) _ (by omega) hi ho hnew rfl (fun e => by have := hlt _ e; omega) (by simp [Value.oneCell'])
  clear ho hnew hlt
  go_wp2_with (go_at_call 258; refine hins.mono ?_; rintro e w' ⟨v', rfl, hown', hg, hat⟩)
  go_ret
  refine ⟨i, v', hi, HLO.out, HHI.out, rfl, hown', ?_, ?_⟩
  · have a1 := World.grownBy_alloc (w.drewN q) (.cells #[.pointer (some ⟨tb, 0, none⟩)] 234) (Value.slice A ns.length c).ownBlock
    have a2 : w.grownBy ((w.drewN q).alloc (.cells #[.pointer (some ⟨tb, 0, none⟩)] 234)) (Value.slice A ns.length c).ownBlock := ⟨a1.os, a1.tape, a1.output, a1.size, a1.block⟩
    exact a2.trans hg
  · rcases hat with h | ⟨k, h, hk⟩
    · exact .inl h
    · exact .inr ⟨k, h, by simp at hk; omega⟩
end Go.Proofs.YtplocldnklccfaaGreatDoor
namespace Go.Proofs.YtplocldnklccfaaGreatDoor
open Go.RowKit
set_option linter.unusedVariables false
set_option linter.unusedSimpArgs false

theorem bad_any (s : ByteArray) (w : World) (hm : s.size ≤ maxLen) :
    Calls Tryz.prog 23 #[.string s] w fun e w' => e = .returned (.bool (!partB s.data.toList)) ∧ w = w' := by
  go_enter Tryz.func23, Tryz.ntmps23
  go_wp2_with (go_at_call 24; refine (part_any _ _ hm).mono ?_; rintro e w' ⟨rfl, rfl⟩)
  go_ret
  exact ⟨rfl, rfl⟩

structure BadIdx (ps : List ByteArray) (i : Int) : Prop where
  ok : (i = -1 ∧ ∀ p ∈ ps, partB p.data.toList = true) ∨ (0 ≤ i ∧ ∃ p ∈ ps, partB p.data.toList = false)
structure IdxRes (ps : List ByteArray) (w : World) (e : Ending) (w' : World) : Prop where
  val : ∃ i : Int, e = .returned (.int .i64 i) ∧ BadIdx ps i
  same : w = w'
structure IdxInv (ps : List ByteArray) (i : Value) (k : Nat) : Prop where
  le : k ≤ ps.length
  at_ : i = .int .i64 (k : Int)
  all : ∀ j (hj : j < ps.length), j < k → partB (ps[j]).data.toList = true

set_option maxHeartbeats 1000000 in
theorem index_any (ps : List ByteArray) (b c : Nat) (w : World) (hn : ps.length ≤ maxLen) (hs : ∀ p ∈ ps, p.size ≤ maxLen)
    (hc : ∀ j (hj : j < ps.length), w.cell? ⟨b, j, none⟩ = some (.string ps[j])) :
    Calls Tryz.prog 79 #[.slice (some ⟨b, 0, none⟩) ps.length c, .func (.func 23) #[] #[]] w (IdxRes ps w) := by
  unfold maxLen at hn
  have HC := Lib.hid hc
  have HS := Lib.hid hs
  clear hc hs
  go_enter Tryz.func79, Tryz.ntmps79
  go_wp2
  go_loop [8] (fun i => ∃ k : Nat, IdxInv ps i k) (fun i => ps.length - (intOf i).toNat)
  case atStart => exact ⟨0, Nat.zero_le _, rfl, fun _ _ h => absurd h (by omega)⟩
  case round =>
    obtain ⟨k, hk, rfl, hall⟩ := hrel
    have HA := Lib.hid hall
    clear hall
    by_cases hlt : k < ps.length
    · have hcell := HC.out k hlt
      have hsz := HS.out _ (List.getElem_mem hlt)
      obtain ⟨p, hp⟩ : ∃ p, p = ps[k] := ⟨_, rfl⟩
      rw [← hp] at hcell hsz
      have HP := Lib.hid hp
      clear hp
      by_cases hb : partB p.data.toList = true
      · go_wp2_with (go_at_call 23; refine (bad_any _ _ hsz).mono ?_; rintro e w' ⟨rfl, rfl⟩)
        go_round
        case rel => exact ⟨k + 1, by omega, by go_num, fun j hj hjk => by
            by_cases e : j = k
            · subst e; rw [← HP.out]; exact hb
            · exact HA.out j hj (by omega)⟩
        case measure => simp [intOf]; omega
      · have hb' : partB p.data.toList = false := by simpa using hb
        go_wp2_with (go_at_call 23; refine (bad_any _ _ hsz).mono ?_; rintro e w' ⟨rfl, rfl⟩)
        go_ret
        exact ⟨⟨_, rfl, ⟨.inr ⟨by omega, p, by rw [HP.out]; exact List.getElem_mem hlt, hb'⟩⟩⟩, rfl⟩
    · go_wp2
      go_ret
      exact ⟨⟨_, rfl, ⟨.inl ⟨rfl, fun p hp => by
        obtain ⟨j, hj, rfl⟩ := List.getElem_of_mem hp
        exact HA.out j hj (by omega)⟩⟩⟩, rfl⟩

theorem contains_any (ps : List ByteArray) (b c : Nat) (w : World) (hn : ps.length ≤ maxLen) (hs : ∀ p ∈ ps, p.size ≤ maxLen)
    (hc : ∀ j (hj : j < ps.length), w.cell? ⟨b, j, none⟩ = some (.string ps[j])) :
    Calls Tryz.prog 22 #[.slice (some ⟨b, 0, none⟩) ps.length c, .func (.func 23) #[] #[]] w fun e w' => e = .returned (.bool (ps.any fun p => !partB p.data.toList)) ∧ w = w' := by
  obtain ⟨R, hR⟩ : ∃ R, R = (ps.any fun p => !partB p.data.toList) := ⟨_, rfl⟩
  rw [← hR]
  have HR := Lib.hid hR
  clear hR
  go_enter Tryz.func22, Tryz.ntmps22
  go_wp2_with (go_at_call 79; refine (index_any ps b c _ hn hs hc).mono ?_; rintro e w' ⟨⟨i, rfl, hi⟩, rfl⟩)
  go_ret
  rcases hi.ok with ⟨rfl, h⟩ | ⟨h0, p, hp, hb⟩
  · refine ⟨ret_bool ?_, rfl⟩
    rw [HR.out, eq_comm]
    simpa using h
  · refine ⟨ret_bool ?_, rfl⟩
    rw [HR.out, eq_comm]
    simp only [h0, decide_true, ge_iff_le, List.any_eq_true]
    exact ⟨p, hp, by simp [hb]⟩

section
open Go.Shelf Go.Lib
variable {P : Program} {ρ : Ren}
set_option maxHeartbeats 1000000 in
/-- strings.Split at a sep of one byte: no variable of the library's is read. -/
theorem split_one (L : Lays.n146 P ρ) (hi9 : (P.info? (ρ.t 9)).map (fun i => (i.zero, i.size, i.bytes)) = some (some (.string ByteArray.empty), 1, 16)) (s : ByteArray) (c : UInt8) (w : World) (hs : s.size < 4294967281) :
    Calls P (ρ.f 146) #[.string s, .string ⟨#[c]⟩] w fun e w' =>
      e = .returned (.slice (some ⟨w.heap.size, 0, none⟩) (countB s ⟨#[c]⟩ + 1) (countB s ⟨#[c]⟩ + 1)) ∧ w' = w.alloc (.cells ((splitB ⟨#[c]⟩ 0 (countB s ⟨#[c]⟩) s).map Value.string).toArray (ρ.t 9)) := by
  obtain ⟨sep, hsep⟩ : ∃ sep : ByteArray, sep = ⟨#[c]⟩ := ⟨_, rfl⟩
  have h1 : 1 ≤ sep.size := by rw [hsep]; exact Nat.le_refl 1
  have hle := countB_le sep h1 s.size s (Nat.le_refl _)
  have hlen := splitB_all sep h1 0 _ s rfl
  have hI : ∀ (x : ByteArray) (cc : Array Value), x.size ≤ s.size → Calls P (ρ.f 143) #[.string x, .string sep] (w.alloc (.cells cc (ρ.t 9))) fun e w' => e = .returned (.int .i64 (indexB x sep)) ∧ w' = w.alloc (.cells cc (ρ.t 9)) := fun x cc _ => by
    subst hsep
    refine (Any.strings_Index_one { L with } x c _).mono fun e w' ⟨he, hw⟩ => ⟨?_, hw⟩
    rw [he]
    exact ret_int (index_one _ _).symm
  have hC : Calls P (ρ.f 138) #[.string s, .string sep] w fun e w' => e = .returned (.int .i64 (countB s sep)) ∧ w' = w := by
    subst hsep
    refine (Any.strings_Count_one { L with } s c w).mono fun e w' ⟨he, hw⟩ => ⟨?_, hw⟩
    rw [he]
    show _ = Ending.returned (Value.int .i64 ((count s.data.toList [c] : Nat) : Int))
    rw [count_one]
    rfl
  have cc := Any.strings_genSplit_core { L with } hi9 s sep 0 (-1) (countB s sep + 1) w hs h1 (Nat.zero_le _) hI hC (by decide) (by decide) (by rw [if_pos (by decide)]; omega)
  rw [Nat.add_sub_cancel, hlen] at cc
  have e2 : cellsOf (splitB sep 0 (countB s sep) s) (countB s sep + 1) = ((splitB sep 0 (countB s sep) s).map Value.string).toArray := by rw [← hlen]; exact cellsOf_full _
  rw [e2] at cc
  rw [← hsep]
  clear hI hC
  have t3 := L.t3; have t9 := L.t9; have t31 := L.t31
  have a3 := L.a3; have a9 := L.a9; have a31 := L.a31
  have z3 := L.z3; have v3 := L.v3; have z9 := L.z9; have v9 := L.v9; have z31 := L.z31; have v31 := L.v31
  have e221 : ∀ args w, (callFunc (ρ.f 221) args).run P w = .ok (.enter (ρ.f 221) args) w := enters_of L.f221 (by kernel_rfl) rfl
  clear hsep
  go_enter L.f146, Body.n146_ntmps ρ
  go_wp2_with (go_at_fn (ρ.f 221); refine cc.mono ?_; rintro e w' ⟨rfl, hw⟩; rw [hw])
  go_ret
  exact ⟨rfl, rfl⟩
end

/-- The pieces, as strings. -/
def piecesB (s : ByteArray) : List ByteArray := Lib.splitB ⟨#[58]⟩ 0 (Lib.countB s ⟨#[58]⟩) s
theorem pieces_length (s : ByteArray) : (piecesB s).length = Lib.countB s ⟨#[58]⟩ + 1 := Lib.splitB_all ⟨#[58]⟩ (Nat.le_refl 1) 0 _ s rfl
theorem pieces_data (s : ByteArray) : (piecesB s).map (·.data.toList) = splitC 58 s.data.toList := splitB_one 58 s
theorem splitB_size (sep : ByteArray) : ∀ (k : Nat) (s : ByteArray), ∀ p ∈ Lib.splitB sep 0 k s, p.size ≤ s.size
  | 0, s => by simp [Lib.splitB]
  | k + 1, s => by
    unfold Lib.splitB
    intro p hp
    split at hp
    · simp at hp; simp [hp]
    · rcases List.mem_cons.1 hp with rfl | hp
      · simp; omega
      · have := splitB_size sep k _ p hp
        simp at this
        omega

theorem Split_any (s : ByteArray) (w : World) (hs : s.size ≤ 102) :
    Calls Tryz.prog 21 #[.string s, .string ⟨#[58]⟩] w fun e w' => e = .returned (.slice (some ⟨w.heap.size, 0, none⟩) (piecesB s).length (piecesB s).length) ∧ w.alloc (.cells ((piecesB s).map Value.string).toArray 9) = w' := by
  refine (split_one Tryz.lays146 (by kernel_rfl) s 58 w (by omega)).mono fun e w' ⟨he, hw⟩ => ⟨?_, hw.symm⟩
  rw [he, pieces_length]

theorem good_eq (s : ByteArray) : goodB s.data.toList = (decide (s.size ≤ 102) && (decide ((piecesB s).length ≤ 6) && !(piecesB s).any fun p => !partB p.data.toList)) := by
  unfold goodB
  rw [data_len, ← pieces_data, List.length_map, List.any_map]
  rfl

set_option maxHeartbeats 1000000 in
theorem Good_any (s : ByteArray) (w : World) (hm : s.size ≤ maxLen) :
    Calls Tryz.prog 6 #[.string s] w fun e w' => e = .returned (.bool (goodB s.data.toList)) ∧ Below w.heap.size w w' := by
  unfold maxLen at hm
  obtain ⟨R, hR⟩ : ∃ R, R = goodB s.data.toList := ⟨_, rfl⟩
  rw [← hR]
  rw [good_eq] at hR
  have HR := Lib.hid hR
  clear hR
  by_cases h : s.size ≤ 102
  · have h1 : ¬ ((102 : Int) < s.size) := by omega
    have hps : ∀ p ∈ piecesB s, p.size ≤ maxLen := fun p hp => by
      have := splitB_size _ _ _ p hp
      unfold maxLen; omega
    have hpl : (piecesB s).length ≤ 103 := by
      rw [pieces_length]
      have := Lib.countB_le ⟨#[58]⟩ (Nat.le_refl 1) s.size s (Nat.le_refl _)
      omega
    obtain ⟨ps, hpd⟩ : ∃ ps, ps = piecesB s := ⟨_, rfl⟩
    have hsp := Split_any s w h
    rw [← hpd] at hsp hps hpl
    have HP : Hid (R = (decide (s.size ≤ 102) && (decide (ps.length ≤ 6) && !ps.any fun p => !partB p.data.toList))) := by rw [hpd]; exact HR.out
    clear hpd HR
    have hcells : ∀ j (hj : j < ps.length), (w.alloc (.cells (ps.map Value.string).toArray 9)).cell? ⟨w.heap.size, j, none⟩ = some (.string ps[j]) := fun j hj => by
      rw [cell_of_row _ _ j _ _ (0, 0) (heap_alloc_new w _)]
      simp [hj]
    have hct := contains_any ps w.heap.size ps.length _ (by unfold maxLen; omega) hps hcells
    have HS := Lib.hid hps
    have HC := Lib.hid hcells
    clear hps hcells
    by_cases h6 : ps.length ≤ 6
    · have h6' : decide ((ps.length : Int) ≤ 6) = true := decide_eq_true (by omega)
      go_enter Tryz.func6, Tryz.ntmps6
      go_wp2_with (first | (go_at_call 21; refine hsp.mono ?_; rintro e w' ⟨rfl, rfl⟩) | (go_at_call 22; refine hct.mono ?_; rintro e w' ⟨rfl, rfl⟩))
      go_ret
      refine ⟨ret_bool ?_, (Below.refl _ _).alloc (Nat.le_refl _) _⟩
      rw [HP.out]
      simp [h, h6]
    · have h6' : decide ((ps.length : Int) ≤ 6) = false := decide_eq_false (by omega)
      go_enter Tryz.func6, Tryz.ntmps6
      go_wp2_with (first | (go_at_call 21; refine hsp.mono ?_; rintro e w' ⟨rfl, rfl⟩))
      go_ret
      refine ⟨ret_bool ?_, (Below.refl _ _).alloc (Nat.le_refl _) _⟩
      rw [HP.out]
      simp [h, h6]
  · have h1 : ((102 : Int) < s.size) := by omega
    go_enter Tryz.func6, Tryz.ntmps6
    go_wp2
    go_ret
    refine ⟨ret_bool ?_, Below.refl _ _⟩
    rw [HR.out]
    simp [h]
end Go.Proofs.YtplocldnklccfaaGreatDoor
namespace Go.Proofs.YtplocldnklccfaaGreatDoor
open Go.RowKit
set_option linter.unusedVariables false
set_option linter.unusedSimpArgs false

theorem Parent_any (s : ByteArray) (w : World) (hs : s.size ≤ 140737488355328) :
    Calls Tryz.prog 10 #[.string s] w fun e w' => e = .returned (.tuple #[.string ((parentF s).getD ⟨#[]⟩), .bool (parentF s).isSome]) ∧ Below w.heap.size w w' := by
  have hl := Tryz.strings_LastIndexByte s 58 (by omega) w
  have hg := fun w => Good_any s w (by unfold maxLen; omega)
  obtain ⟨i, hi⟩ : ∃ i, i = Lib.lastIndexByte s 58 := ⟨_, rfl⟩
  have hle : i ≤ s.size := by
    rw [hi]
    rcases Lib.lastIndexByte_spec s 58 with ⟨h, _⟩ | ⟨j, hj, h, _⟩ <;> rw [h] <;> omega
  obtain ⟨P, hP⟩ : ∃ P, P = parentF s := ⟨_, rfl⟩
  rw [← hP]
  have HP := Lib.hid hP
  clear hP
  rw [← hi] at hl
  have HI := Lib.hid hi
  clear hi
  by_cases h0 : i < 0
  · have e : P = none := by rw [HP.out]; unfold parentF; rw [if_neg (by rw [← HI.out]; omega)]
    subst e
    go_enter Tryz.func10, Tryz.ntmps10
    go_wp2_with (go_at_call 27; refine hl.mono ?_; rintro e w' ⟨rfl, rfl⟩)
    go_ret2
    exact ⟨rfl, Below.refl _ _⟩
  · cases hb : goodB s.data.toList with
    | false =>
      have e : P = none := by rw [HP.out]; unfold parentF; rw [if_neg (by rw [hb]; simp)]
      subst e
      rw [hb] at hg
      clear hb
      go_enter Tryz.func10, Tryz.ntmps10
      go_wp2_with (first | (go_at_call 27; refine hl.mono ?_; rintro e w' ⟨rfl, rfl⟩) | (go_at_call 6; refine (hg _).mono ?_; rintro e w' ⟨rfl, hbel⟩))
      go_ret2
      exact ⟨rfl, hbel⟩
    | true =>
      obtain ⟨k, rfl⟩ : ∃ k : Nat, i = k := ⟨i.toNat, by omega⟩
      have e : P = some (s.extract 0 k) := by rw [HP.out]; unfold parentF; rw [if_pos ⟨hb, by rw [← HI.out]; omega⟩, ← HI.out]; simp
      subst e
      rw [hb] at hg
      clear hb
      have hk : k ≤ s.size := by omega
      go_enter Tryz.func10, Tryz.ntmps10
      go_wp2_with (first | (go_at_call 27; refine hl.mono ?_; rintro e w' ⟨rfl, rfl⟩) | (go_at_call 6; refine (hg _).mono ?_; rintro e w' ⟨rfl, hbel⟩))
      go_ret2
      exact ⟨rfl, hbel⟩
end Go.Proofs.YtplocldnklccfaaGreatDoor
