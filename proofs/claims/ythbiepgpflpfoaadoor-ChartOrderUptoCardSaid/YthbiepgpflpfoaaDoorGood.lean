/- Contracts of the functions on names: Good and what it calls; the world is as it was, or has grown. -/
import Derived.Test.YthbiepgpflpfoaaDoorPart
import Derived.Test.YthbiepgpflpfoaaDoorShelf
import Derived.Lib.IndexBytes
import Derived.Shelf.Strings.Split
namespace Go.Proofs.YthbiepgpflpfoaaDoor
open Go.RowKit
set_option linter.unusedVariables false
set_option linter.unusedSimpArgs false

theorem bad_any (s : ByteArray) (w : World) (hm : s.size ≤ maxLen) :
    Calls Tryd.prog 39 #[.string s] w fun e w' => e = .returned (.bool (!partB s.data.toList)) ∧ w = w' := by
  go_enter Tryd.func39, Tryd.ntmps39
  go_wp2_with (go_at_call 40; refine (part_any _ _ hm).mono ?_; rintro e w' ⟨rfl, rfl⟩)
  go_ret
  exact ⟨rfl, rfl⟩

structure BadIdx (ps : List ByteArray) (i : Int) : Prop where
  ok : (i = -1 ∧ ∀ p ∈ ps, partB p.data.toList = true) ∨ (0 ≤ i ∧ ∃ p ∈ ps, partB p.data.toList = false)
structure IdxRes (ps : List ByteArray) (w : World) (e : Ending) (w' : World) : Prop where
  val : ∃ i : Int, e = .returned (.int .i64 i) ∧ BadIdx ps i
  same : w = w'
structure IdxInv (ps : List ByteArray) (i : Value) (k : Nat) : Prop where
  le : k ≤ ps.length
  at_ : i = .int .i64 (k : Int)
  all : ∀ j (hj : j < ps.length), j < k → partB (ps[j]).data.toList = true

set_option maxHeartbeats 1000000 in
theorem index_any (ps : List ByteArray) (b c : Nat) (w : World) (hn : ps.length ≤ maxLen) (hs : ∀ p ∈ ps, p.size ≤ maxLen)
    (hc : ∀ j (hj : j < ps.length), w.cell? ⟨b, j, none⟩ = some (.string ps[j])) :
    Calls Tryd.prog 56 #[.slice (some ⟨b, 0, none⟩) ps.length c, .func (.func 39) #[] #[]] w (IdxRes ps w) := by
  unfold maxLen at hn
  have HC := Lib.hid hc
  have HS := Lib.hid hs
  clear hc hs
  go_enter Tryd.func56, Tryd.ntmps56
  go_wp2
  go_loop [8] (fun i => ∃ k : Nat, IdxInv ps i k) (fun i => ps.length - (intOf i).toNat)
  case atStart => exact ⟨0, Nat.zero_le _, rfl, fun _ _ h => absurd h (by omega)⟩
  case round =>
    obtain ⟨k, hk, rfl, hall⟩ := hrel
    have HA := Lib.hid hall
    clear hall
    by_cases hlt : k < ps.length
    · have hcell := HC.out k hlt
      have hsz := HS.out _ (List.getElem_mem hlt)
      obtain ⟨p, hp⟩ : ∃ p, p = ps[k] := ⟨_, rfl⟩
      rw [← hp] at hcell hsz
      have HP := Lib.hid hp
      clear hp
      by_cases hb : partB p.data.toList = true
      · go_wp2_with (go_at_call 39; refine (bad_any _ _ hsz).mono ?_; rintro e w' ⟨rfl, rfl⟩)
        go_round
        case rel => exact ⟨k + 1, by omega, by go_num, fun j hj hjk => by
            by_cases e : j = k
            · subst e; rw [← HP.out]; exact hb
            · exact HA.out j hj (by omega)⟩
        case measure => simp [intOf]; omega
      · have hb' : partB p.data.toList = false := by simpa using hb
        go_wp2_with (go_at_call 39; refine (bad_any _ _ hsz).mono ?_; rintro e w' ⟨rfl, rfl⟩)
        go_ret
        exact ⟨⟨_, rfl, ⟨.inr ⟨by omega, p, by rw [HP.out]; exact List.getElem_mem hlt, hb'⟩⟩⟩, rfl⟩
    · go_wp2
      go_ret
      exact ⟨⟨_, rfl, ⟨.inl ⟨rfl, fun p hp => by
        obtain ⟨j, hj, rfl⟩ := List.getElem_of_mem hp
        exact HA.out j hj (by omega)⟩⟩⟩, rfl⟩

theorem contains_any (ps : List ByteArray) (b c : Nat) (w : World) (hn : ps.length ≤ maxLen) (hs : ∀ p ∈ ps, p.size ≤ maxLen)
    (hc : ∀ j (hj : j < ps.length), w.cell? ⟨b, j, none⟩ = some (.string ps[j])) :
    Calls Tryd.prog 38 #[.slice (some ⟨b, 0, none⟩) ps.length c, .func (.func 39) #[] #[]] w fun e w' => e = .returned (.bool (ps.any fun p => !partB p.data.toList)) ∧ w = w' := by
  obtain ⟨R, hR⟩ : ∃ R, R = (ps.any fun p => !partB p.data.toList) := ⟨_, rfl⟩
  rw [← hR]
  have HR := Lib.hid hR
  clear hR
  go_enter Tryd.func38, Tryd.ntmps38
  go_wp2_with (go_at_call 56; refine (index_any ps b c _ hn hs hc).mono ?_; rintro e w' ⟨⟨i, rfl, hi⟩, rfl⟩)
  go_ret
  rcases hi.ok with ⟨rfl, h⟩ | ⟨h0, p, hp, hb⟩
  · refine ⟨ret_bool ?_, rfl⟩
    rw [HR.out, eq_comm]
    simpa using h
  · refine ⟨ret_bool ?_, rfl⟩
    rw [HR.out, eq_comm]
    simp only [h0, decide_true, ge_iff_le, List.any_eq_true]
    exact ⟨p, hp, by simp [hb]⟩

section
open Go.Shelf Go.Lib
variable {P : Program} {ρ : Ren}
set_option maxHeartbeats 1000000 in
/-- strings.Split at a sep of one byte: no variable of the library's is read. -/
theorem split_one (L : Lays.n146 P ρ) (hi9 : (P.info? (ρ.t 9)).map (fun i => (i.zero, i.size, i.bytes)) = some (some (.string ByteArray.empty), 1, 16)) (s : ByteArray) (c : UInt8) (w : World) (hs : s.size < 4294967281) :
    Calls P (ρ.f 146) #[.string s, .string ⟨#[c]⟩] w fun e w' =>
      e = .returned (.slice (some ⟨w.heap.size, 0, none⟩) (countB s ⟨#[c]⟩ + 1) (countB s ⟨#[c]⟩ + 1)) ∧ w' = w.alloc (.cells ((splitB ⟨#[c]⟩ 0 (countB s ⟨#[c]⟩) s).map Value.string).toArray (ρ.t 9)) := by
  obtain ⟨sep, hsep⟩ : ∃ sep : ByteArray, sep = ⟨#[c]⟩ := ⟨_, rfl⟩
  have h1 : 1 ≤ sep.size := by rw [hsep]; exact Nat.le_refl 1
  have hle := countB_le sep h1 s.size s (Nat.le_refl _)
  have hlen := splitB_all sep h1 0 _ s rfl
  have hI : ∀ (x : ByteArray) (cc : Array Value), x.size ≤ s.size → Calls P (ρ.f 143) #[.string x, .string sep] (w.alloc (.cells cc (ρ.t 9))) fun e w' => e = .returned (.int .i64 (indexB x sep)) ∧ w' = w.alloc (.cells cc (ρ.t 9)) := fun x cc _ => by
    subst hsep
    refine (Any.strings_Index_one { L with } x c _).mono fun e w' ⟨he, hw⟩ => ⟨?_, hw⟩
    rw [he]
    exact ret_int (index_one _ _).symm
  have hC : Calls P (ρ.f 138) #[.string s, .string sep] w fun e w' => e = .returned (.int .i64 (countB s sep)) ∧ w' = w := by
    subst hsep
    refine (Any.strings_Count_one { L with } s c w).mono fun e w' ⟨he, hw⟩ => ⟨?_, hw⟩
    rw [he]
    show _ = Ending.returned (Value.int .i64 ((count s.data.toList [c] : Nat) : Int))
    rw [count_one]
    rfl
  have cc := Any.strings_genSplit_core { L with } hi9 s sep 0 (-1) (countB s sep + 1) w hs h1 (Nat.zero_le _) hI hC (by decide) (by decide) (by rw [if_pos (by decide)]; omega)
  rw [Nat.add_sub_cancel, hlen] at cc
  have e2 : cellsOf (splitB sep 0 (countB s sep) s) (countB s sep + 1) = ((splitB sep 0 (countB s sep) s).map Value.string).toArray := by rw [← hlen]; exact cellsOf_full _
  rw [e2] at cc
  rw [← hsep]
  clear hI hC
  have t3 := L.t3; have t9 := L.t9; have t31 := L.t31
  have a3 := L.a3; have a9 := L.a9; have a31 := L.a31
  have z3 := L.z3; have v3 := L.v3; have z9 := L.z9; have v9 := L.v9; have z31 := L.z31; have v31 := L.v31
  have e221 : ∀ args w, (callFunc (ρ.f 221) args).run P w = .ok (.enter (ρ.f 221) args) w := enters_of L.f221 (by kernel_rfl) rfl
  clear hsep
  go_enter L.f146, Body.n146_ntmps ρ
  go_wp2_with (go_at_fn (ρ.f 221); refine cc.mono ?_; rintro e w' ⟨rfl, hw⟩; rw [hw])
  go_ret
  exact ⟨rfl, rfl⟩
end

/-- The pieces, as strings. -/
def piecesB (s : ByteArray) : List ByteArray := Lib.splitB ⟨#[58]⟩ 0 (Lib.countB s ⟨#[58]⟩) s
theorem pieces_length (s : ByteArray) : (piecesB s).length = Lib.countB s ⟨#[58]⟩ + 1 := Lib.splitB_all ⟨#[58]⟩ (Nat.le_refl 1) 0 _ s rfl
theorem pieces_data (s : ByteArray) : (piecesB s).map (·.data.toList) = splitC 58 s.data.toList := splitB_one 58 s
theorem splitB_size (sep : ByteArray) : ∀ (k : Nat) (s : ByteArray), ∀ p ∈ Lib.splitB sep 0 k s, p.size ≤ s.size
  | 0, s => by simp [Lib.splitB]
  | k + 1, s => by
    unfold Lib.splitB
    intro p hp
    split at hp
    · simp at hp; simp [hp]
    · rcases List.mem_cons.1 hp with rfl | hp
      · simp; omega
      · have := splitB_size sep k _ p hp
        simp at this
        omega

theorem Split_any (s : ByteArray) (w : World) (hs : s.size ≤ 102) :
    Calls Tryd.prog 37 #[.string s, .string ⟨#[58]⟩] w fun e w' => e = .returned (.slice (some ⟨w.heap.size, 0, none⟩) (piecesB s).length (piecesB s).length) ∧ w.alloc (.cells ((piecesB s).map Value.string).toArray 9) = w' := by
  refine (split_one Tryd.lays146 (by kernel_rfl) s 58 w (by omega)).mono fun e w' ⟨he, hw⟩ => ⟨?_, hw.symm⟩
  rw [he, pieces_length]

theorem good_eq (s : ByteArray) : goodB s.data.toList = (decide (s.size ≤ 102) && (decide ((piecesB s).length ≤ 6) && !(piecesB s).any fun p => !partB p.data.toList)) := by
  unfold goodB
  rw [data_len, ← pieces_data, List.length_map, List.any_map]
  rfl

set_option maxHeartbeats 1000000 in
theorem Good_any (s : ByteArray) (w : World) (hm : s.size ≤ maxLen) :
    Calls Tryd.prog 27 #[.string s] w fun e w' => e = .returned (.bool (goodB s.data.toList)) ∧ Below w.heap.size w w' := by
  unfold maxLen at hm
  obtain ⟨R, hR⟩ : ∃ R, R = goodB s.data.toList := ⟨_, rfl⟩
  rw [← hR]
  rw [good_eq] at hR
  have HR := Lib.hid hR
  clear hR
  by_cases h : s.size ≤ 102
  · have h1 : ¬ ((102 : Int) < s.size) := by omega
    have hps : ∀ p ∈ piecesB s, p.size ≤ maxLen := fun p hp => by
      have := splitB_size _ _ _ p hp
      unfold maxLen; omega
    have hpl : (piecesB s).length ≤ 103 := by
      rw [pieces_length]
      have := Lib.countB_le ⟨#[58]⟩ (Nat.le_refl 1) s.size s (Nat.le_refl _)
      omega
    obtain ⟨ps, hpd⟩ : ∃ ps, ps = piecesB s := ⟨_, rfl⟩
    have hsp := Split_any s w h
    rw [← hpd] at hsp hps hpl
    have HP : Hid (R = (decide (s.size ≤ 102) && (decide (ps.length ≤ 6) && !ps.any fun p => !partB p.data.toList))) := by rw [hpd]; exact HR.out
    clear hpd HR
    have hcells : ∀ j (hj : j < ps.length), (w.alloc (.cells (ps.map Value.string).toArray 9)).cell? ⟨w.heap.size, j, none⟩ = some (.string ps[j]) := fun j hj => by
      rw [cell_of_row _ _ j _ _ (0, 0) (heap_alloc_new w _)]
      simp [hj]
    have hct := contains_any ps w.heap.size ps.length _ (by unfold maxLen; omega) hps hcells
    have HS := Lib.hid hps
    have HC := Lib.hid hcells
    clear hps hcells
    by_cases h6 : ps.length ≤ 6
    · have h6' : decide ((ps.length : Int) ≤ 6) = true := decide_eq_true (by omega)
      go_enter Tryd.func27, Tryd.ntmps27
      go_wp2_with (first | (go_at_call 37; refine hsp.mono ?_; rintro e w' ⟨rfl, rfl⟩) | (go_at_call 38; refine hct.mono ?_; rintro e w' ⟨rfl, rfl⟩))
      go_ret
      refine ⟨ret_bool ?_, (Below.refl _ _).alloc (Nat.le_refl _) _⟩
      rw [HP.out]
      simp [h, h6]
    · have h6' : decide ((ps.length : Int) ≤ 6) = false := decide_eq_false (by omega)
      go_enter Tryd.func27, Tryd.ntmps27
      go_wp2_with (first | (go_at_call 37; refine hsp.mono ?_; rintro e w' ⟨rfl, rfl⟩))
      go_ret
      refine ⟨ret_bool ?_, (Below.refl _ _).alloc (Nat.le_refl _) _⟩
      rw [HP.out]
      simp [h, h6]
  · have h1 : ((102 : Int) < s.size) := by omega
    go_enter Tryd.func27, Tryd.ntmps27
    go_wp2
    go_ret
    refine ⟨ret_bool ?_, Below.refl _ _⟩
    rw [HR.out]
    simp [h]
end Go.Proofs.YthbiepgpflpfoaaDoor
