/- sum and SameRows. Printed by gen_sum.py; own: an account's balance by rows; BookVoids in plain words: a posting and its void leave all balances; no program. -/
import Derived.Test.YtgocoofcelggcaaGreatDoorPack14
import Derived.Deep.QuietTactic
namespace Go.Proofs.YtgocoofcelggcaaGreatDoor
open Go.RowKit
set_option linter.unusedVariables false
set_option linter.unusedSimpArgs false

structure TotInv (rs : List PostV) (w : World) (tot siz i : Value) (wr : World) (k : Nat) : Prop where
  le : k ≤ rs.length
  at_ : i = .int .i64 (k : Int)
  tot : tot = .int .i64 (sumAmt (rs.take k))
  siz : siz = .int .i64 (sumAbs (rs.take k))
  same : wr = w

set_option maxRecDepth 100000 in
set_option maxHeartbeats 4000000 in
theorem tot_any {w : World} {n c : Nat} {A : Option Addr} (rs : List PostV) (h : w.ownsRow n 39 9 (.slice A rs.length c) rs.length (rs.map encPost).flatten) (hl : rs.length ≤ 1048576) (ham : ∀ r ∈ rs, -maxA ≤ r.amount ∧ r.amount ≤ maxA) (hs : sumAbs rs ≤ maxA) :
    Calls Tryz.prog 26 #[.slice A rs.length c] w fun en w' => en = .returned (.tuple #[.int .i64 (sumAmt rs), .int .i64 (sumAbs rs), .bool true]) ∧ w' = w := by
  have HO := Lib.hid h
  have HAM := Lib.hid ham
  have HS := Lib.hid hs
  clear h ham hs
  go_enter Tryz.func26, Tryz.ntmps26
  go_wp2
  go_loopw [5, 6, 7] (fun tot siz i wr => ∃ k, TotInv rs w tot siz i wr k) (fun _ _ i _ => rs.length - (intOf i).toNat)
  case atStart => exact ⟨0, Nat.zero_le _, rfl, rfl, rfl, rfl⟩
  case round =>
    obtain ⟨k, hk, rfl, rfl, rfl, rfl⟩ := hrel
    by_cases hlt : k < rs.length
    · obtain ⟨ad, rfl, hab, hcs⟩ := row_read HO.out k hlt
      have hts := sumAbs_take rs k hlt
      have hta := sumAmt_take hlt
      have hax := HAM.out _ (List.getElem_mem hlt)
      have hnn := sumAbs_nonneg (rs.take k)
      have hle1 := sumAbs_le rs (k + 1)
      have hal := sumAmt_le (rs.take k)
      have hal1 := sumAmt_le (rs.take (k + 1))
      have hmx := HS.out
      have c6 : wr.cell? ⟨(ad.add (k * 9)).block, (ad.add (k * 9)).off + 6, none⟩ = some (.int .i64 rs[k].amount) := hcs 6 _ rfl
      obtain ⟨a, ha⟩ : ∃ a, a = rs[k].amount := ⟨_, rfl⟩
      rw [← ha] at hts hta hax c6
      obtain ⟨T, hT⟩ : ∃ T, T = sumAbs (rs.take k) := ⟨_, rfl⟩
      obtain ⟨U, hU⟩ : ∃ U, U = sumAmt (rs.take k) := ⟨_, rfl⟩
      rw [← hT] at hts hnn hal ⊢
      rw [← hU] at hta hal ⊢
      unfold maxA at hax hmx
      have HTS := Lib.hid hts
      have HTA := Lib.hid hta
      have hb0 : 0 ≤ absI a ∧ T + absI a ≤ 9223372036854775807 ∧ -9223372036854775807 ≤ U + a ∧ U + a ≤ 9223372036854775807 := by
        have := absI_nonneg a
        omega
      clear hts hta hcs ha hT hU hle1 hal hal1 hmx
      by_cases hn : a < 0
      · have hd : decide (a < 0) = true := decide_eq_true hn
        have hab' : absI a = -a := by unfold absI; rw [if_pos hn]
        rw [hab'] at hb0
        have hm : wrap64 (-a) = -a := by unfold wrap64; omega
        have hm' : IntKind.i64.wrap (-a) = -a := IntWalk.i64_in _ (by omega)
        have hq : decide (-a < 0) = false := decide_eq_false (by omega)
        have hw1 : wrap64 (9223372036854775807 - T) = 9223372036854775807 - T := by unfold wrap64; omega
        have hw1' : IntKind.i64.wrap (9223372036854775807 - T) = 9223372036854775807 - T := IntWalk.i64_in _ (by omega)
        have hg : decide (9223372036854775807 - T < -a) = false := decide_eq_false (by omega)
        have hw2 : wrap64 (T + -a) = T + -a := by unfold wrap64; omega
        have hw2' : IntKind.i64.wrap (T + -a) = T + -a := IntWalk.i64_in _ (by omega)
        have hw3 : wrap64 (U + a) = U + a := by unfold wrap64; omega
        have hw3' : IntKind.i64.wrap (U + a) = U + a := IntWalk.i64_in _ (by omega)
        have HAB := Lib.hid hab'
        clear hab'
        go_wp2
        go_roundw
        case rel => exact ⟨k + 1, by omega, by go_num, by rw [HTA.out], by rw [HTS.out, HAB.out], rfl⟩
        case measure => simp [intOf]; omega
      · have hd : decide (a < 0) = false := decide_eq_false hn
        have hab' : absI a = a := by unfold absI; rw [if_neg hn]
        rw [hab'] at hb0
        have hw1 : wrap64 (9223372036854775807 - T) = 9223372036854775807 - T := by unfold wrap64; omega
        have hw1' : IntKind.i64.wrap (9223372036854775807 - T) = 9223372036854775807 - T := IntWalk.i64_in _ (by omega)
        have hg : decide (9223372036854775807 - T < a) = false := decide_eq_false (by omega)
        have hw2 : wrap64 (T + a) = T + a := by unfold wrap64; omega
        have hw2' : IntKind.i64.wrap (T + a) = T + a := IntWalk.i64_in _ (by omega)
        have hw3 : wrap64 (U + a) = U + a := by unfold wrap64; omega
        have hw3' : IntKind.i64.wrap (U + a) = U + a := IntWalk.i64_in _ (by omega)
        have HAB := Lib.hid hab'
        clear hab'
        go_wp2
        go_roundw
        case rel => exact ⟨k + 1, by omega, by go_num, by rw [HTA.out], by rw [HTS.out, HAB.out], rfl⟩
        case measure => simp [intOf]; omega
    · obtain rfl : k = rs.length := by omega
      rw [List.take_length]
      go_wp2
      go_ret3
      exact ⟨rfl, rfl⟩

set_option maxRecDepth 100000 in
set_option maxHeartbeats 4000000 in
theorem sameRows_any {w : World} {n n' c c' : Nat} {A A' : Option Addr} (rs : List PostV) (h : w.ownsRow n 39 9 (.slice A rs.length c) rs.length (rs.map encPost).flatten) (h' : w.ownsRow n' 39 9 (.slice A' rs.length c') rs.length (rs.map encPost).flatten) (hl : rs.length ≤ 1048576) :
    Calls Tryz.prog 27 #[.slice A rs.length c, .slice A' rs.length c'] w fun en w' => en = .returned (.bool true) ∧ Below w.heap.size w w' := by
  have HO := Lib.hid h
  have HO' := Lib.hid h'
  clear h h'
  go_enter Tryz.func27, Tryz.ntmps27
  go_wp2
  go_loopw [5] (fun i wr => ∃ k : Nat, i = .int .i64 (k : Int) ∧ k ≤ rs.length ∧ Below w.heap.size w wr) (fun i _ => rs.length - (intOf i).toNat)
  case atStart => exact ⟨0, rfl, Nat.zero_le _, Below.refl _ _⟩
  case round =>
    obtain ⟨k, rfl, hk, hbel⟩ := hrel
    by_cases hlt : k < rs.length
    · obtain ⟨ad, rfl, hab, hcs⟩ := row_read (own_below HO.out hbel) k hlt
      obtain ⟨ad', rfl, hab', hcs'⟩ := row_read (own_below HO'.out hbel) k hlt
      obtain ⟨r, hr⟩ : ∃ r, r = rs[k] := ⟨_, rfl⟩
      rw [← hr] at hcs hcs'
      have c0 : wr.cell? (ad.add (k * 9)) = some (.int .i64 r.seq) := hcs 0 _ rfl
      have c1 : wr.cell? ⟨(ad.add (k * 9)).block, (ad.add (k * 9)).off + 1, none⟩ = some (.int .i64 r.line) := hcs 1 _ rfl
      have c2 : wr.cell? ⟨(ad.add (k * 9)).block, (ad.add (k * 9)).off + 2, none⟩ = some (.int .i64 r.day) := hcs 2 _ rfl
      have c3 : wr.cell? ⟨(ad.add (k * 9)).block, (ad.add (k * 9)).off + 3, none⟩ = some (.int .i64 r.kind) := hcs 3 _ rfl
      have c4 : wr.cell? ⟨(ad.add (k * 9)).block, (ad.add (k * 9)).off + 4, none⟩ = some (.string r.key) := hcs 4 _ rfl
      have c5 : wr.cell? ⟨(ad.add (k * 9)).block, (ad.add (k * 9)).off + 5, none⟩ = some (.string r.account) := hcs 5 _ rfl
      have c6 : wr.cell? ⟨(ad.add (k * 9)).block, (ad.add (k * 9)).off + 6, none⟩ = some (.int .i64 r.amount) := hcs 6 _ rfl
      have c7 : wr.cell? ⟨(ad.add (k * 9)).block, (ad.add (k * 9)).off + 7, none⟩ = some (.string r.tag) := hcs 7 _ rfl
      have c8 : wr.cell? ⟨(ad.add (k * 9)).block, (ad.add (k * 9)).off + 8, none⟩ = some (.string r.memo) := hcs 8 _ rfl
      have d0 : wr.cell? (ad'.add (k * 9)) = some (.int .i64 r.seq) := hcs' 0 _ rfl
      have d1 : wr.cell? ⟨(ad'.add (k * 9)).block, (ad'.add (k * 9)).off + 1, none⟩ = some (.int .i64 r.line) := hcs' 1 _ rfl
      have d2 : wr.cell? ⟨(ad'.add (k * 9)).block, (ad'.add (k * 9)).off + 2, none⟩ = some (.int .i64 r.day) := hcs' 2 _ rfl
      have d3 : wr.cell? ⟨(ad'.add (k * 9)).block, (ad'.add (k * 9)).off + 3, none⟩ = some (.int .i64 r.kind) := hcs' 3 _ rfl
      have d4 : wr.cell? ⟨(ad'.add (k * 9)).block, (ad'.add (k * 9)).off + 4, none⟩ = some (.string r.key) := hcs' 4 _ rfl
      have d5 : wr.cell? ⟨(ad'.add (k * 9)).block, (ad'.add (k * 9)).off + 5, none⟩ = some (.string r.account) := hcs' 5 _ rfl
      have d6 : wr.cell? ⟨(ad'.add (k * 9)).block, (ad'.add (k * 9)).off + 6, none⟩ = some (.int .i64 r.amount) := hcs' 6 _ rfl
      have d7 : wr.cell? ⟨(ad'.add (k * 9)).block, (ad'.add (k * 9)).off + 7, none⟩ = some (.string r.tag) := hcs' 7 _ rfl
      have d8 : wr.cell? ⟨(ad'.add (k * 9)).block, (ad'.add (k * 9)).off + 8, none⟩ = some (.string r.memo) := hcs' 8 _ rfl
      clear hcs hcs' hr
      go_wp2
      go_quiet (fail)
      have HB := Lib.hid (below_drewN hbel nq)
      go_wp2
      go_roundw
      case rel => exact ⟨k + 1, by go_num, by omega, HB.out⟩
      case measure => simp [intOf]; omega
    · have HB := Lib.hid hbel
      clear hbel
      go_wp2
      go_ret
      exact ⟨rfl, HB.out⟩
end Go.Proofs.YtgocoofcelggcaaGreatDoor
namespace Go.Proofs.YtgocoofcelggcaaGreatDoor
open Go.RowKit
set_option linter.unusedVariables false
set_option linter.unusedSimpArgs false

theorem ownF_take {l : List PostV} {k : Nat} (hk : k < l.length) (acc : ByteArray) : ownF (l.take (k + 1)) acc = ownF (l.take k) acc + if l[k].account = acc then l[k].amount else 0 := by
  rw [List.take_succ_eq_append_getElem hk, ownF_append, ownF_one]

structure OwnInv (rs : List PostV) (acc : ByteArray) (w : World) (tot i : Value) (wr : World) (k : Nat) : Prop where
  le : k ≤ rs.length
  at_ : i = .int .i64 (k : Int)
  tot : tot = .int .i64 (ownF (rs.take k) acc)
  same : wr = w

theorem text_ne' {a b : ByteArray} (h : a ≠ b) : (a.toList == b.toList) = false := by
  cases hx : (a.toList == b.toList) with
  | false => rfl
  | true =>
    have h1 : a.toList = b.toList := by simpa using hx
    rw [ByteArray.toList_eq, ByteArray.toList_eq] at h1
    exact absurd (by cases a; cases b; simp only at h1; rw [Array.toList_inj.1 h1]) h

set_option maxRecDepth 100000 in
set_option maxHeartbeats 4000000 in
theorem ownF_any {w : World} {n c : Nat} {A : Option Addr} (rs : List PostV) (acc : ByteArray) (h : w.ownsRow n 39 9 (.slice A rs.length c) rs.length (rs.map encPost).flatten) (hl : rs.length ≤ 1048576) (hs : sumAbs rs ≤ maxA) :
    Calls Tryz.prog 28 #[.slice A rs.length c, .string acc] w fun en w' => en = .returned (.int .i64 (ownF rs acc)) ∧ w' = w := by
  have HO := Lib.hid h
  have HS := Lib.hid hs
  clear h hs
  go_enter Tryz.func28, Tryz.ntmps28
  go_wp2
  go_loopw [5, 6] (fun tot i wr => ∃ k, OwnInv rs acc w tot i wr k) (fun _ i _ => rs.length - (intOf i).toNat)
  case atStart => exact ⟨0, Nat.zero_le _, rfl, rfl, rfl⟩
  case round =>
    obtain ⟨k, hk, rfl, rfl, rfl⟩ := hrel
    by_cases hlt : k < rs.length
    · obtain ⟨ad, rfl, hab, hcs⟩ := row_read HO.out k hlt
      have hta := ownF_take hlt acc
      have hb := ownF_bound (rs.take (k + 1)) acc
      have hle1 := sumAbs_le rs (k + 1)
      have hmx := HS.out
      have c5 : wr.cell? ⟨(ad.add (k * 9)).block, (ad.add (k * 9)).off + 5, none⟩ = some (.string rs[k].account) := hcs 5 _ rfl
      have c6 : wr.cell? ⟨(ad.add (k * 9)).block, (ad.add (k * 9)).off + 6, none⟩ = some (.int .i64 rs[k].amount) := hcs 6 _ rfl
      obtain ⟨r, hr⟩ : ∃ r, r = rs[k] := ⟨_, rfl⟩
      rw [← hr] at hta c5 c6
      obtain ⟨U, hU⟩ : ∃ U, U = ownF (rs.take k) acc := ⟨_, rfl⟩
      rw [← hU] at hta ⊢
      unfold maxA at hmx
      have hrg : -9223372036854775807 ≤ ownF (rs.take (k + 1)) acc ∧ ownF (rs.take (k + 1)) acc ≤ 9223372036854775807 := by omega
      have HTA := Lib.hid hta
      clear hcs hr hU hb hle1 hmx
      by_cases hn : r.account = acc
      · have he : (r.account.toList == acc.toList) = true := by rw [hn]; exact self_beq _
        rw [if_pos hn] at hta
        rw [hta] at hrg
        have hw3 : wrap64 (U + r.amount) = U + r.amount := by unfold wrap64; omega
        have hw3' : IntKind.i64.wrap (U + r.amount) = U + r.amount := IntWalk.i64_in _ (by omega)
        have HT2 := Lib.hid hta
        clear hta hn
        go_wp2
        go_roundw
        case rel => exact ⟨k + 1, by omega, by go_num, by rw [HT2.out], rfl⟩
        case measure => simp [intOf]; omega
      · have he : (r.account.toList == acc.toList) = false := text_ne' hn
        rw [if_neg hn, Int.add_zero] at hta
        have HT2 := Lib.hid hta
        clear hta hn hrg
        go_wp2
        go_roundw
        case rel => exact ⟨k + 1, by omega, by go_num, by rw [HT2.out], rfl⟩
        case measure => simp [intOf]; omega
    · obtain rfl : k = rs.length := by omega
      rw [List.take_length]
      go_wp2
      go_ret
      exact ⟨rfl, rfl⟩
end Go.Proofs.YtgocoofcelggcaaGreatDoor
namespace Go.Proofs.YtgocoofcelggcaaGreatDoor
set_option linter.unusedVariables false
set_option linter.unusedSimpArgs false

/-- The event that voids: its day, its key, what it voids. -/
def voidE (day : Int) (key ref : ByteArray) : EventV := ⟨4, day, key, ⟨#[]⟩, ⟨#[]⟩, ref, ⟨#[]⟩, 0, 0, 0, ⟨#[]⟩, []⟩
def void0 : ByteArray := ⟨#[118, 111, 105, 100, 46, 48]⟩
def void1 : ByteArray := ⟨#[118, 111, 105, 100, 46, 49]⟩

theorem linesFrom_get (S : BookS) (e : EventV) (s : Int) : ∀ (l : List LineV) (i k : Nat) (hk : k < l.length) (hk' : k < (linesFrom S e s i l).length),
    (linesFrom S e s i l)[k].account = l[k].account ∧ (linesFrom S e s i l)[k].amount = s * l[k].amount ∧ (linesFrom S e s i l)[k].tag = l[k].tag
  | [], _, k, hk, _ => by simp at hk
  | x :: l, i, 0, _, _ => ⟨rfl, rfl, rfl⟩
  | x :: l, i, k + 1, hk, hk' => by
    have h := linesFrom_get S e s l (i + 1) k (by simpa using hk) (by simpa [linesFrom] using hk')
    simpa [linesFrom] using h
theorem ownF_lines (S : BookS) (e : EventV) (s : Int) (acc : ByteArray) : ∀ (l : List LineV) (i : Nat), ownF (linesFrom S e s i l) acc = s * ((l.filter fun x => decide (x.account = acc)).map (·.amount)).sum
  | [], _ => by simp [linesFrom, ownF]
  | x :: l, i => by
    have ih := ownF_lines S e s acc l (i + 1)
    have e1 : ownF (linesFrom S e s i (x :: l)) acc = ownF [rowV S e ((i : Int) + 1) x.account (s * x.amount) x.tag] acc + ownF (linesFrom S e s (i + 1) l) acc := ownF_append [_] _ acc
    rw [e1, ih, ownF_one]
    by_cases h : x.account = acc
    · have h' : (rowV S e ((i : Int) + 1) x.account (s * x.amount) x.tag).account = acc := h
      rw [if_pos h']
      simp [h, rowV, Int.mul_add]
    · have h' : ¬ (rowV S e ((i : Int) + 1) x.account (s * x.amount) x.tag).account = acc := h
      rw [if_neg h']
      simp [h]
theorem sumAbs_lines (S : BookS) (e : EventV) (s : Int) (hs : s = 1 ∨ s = -1) : ∀ (l : List LineV) (i : Nat), sumAbs (linesFrom S e s i l) = (l.map fun x => absI x.amount).sum
  | [], _ => by simp [linesFrom, sumAbs]
  | x :: l, i => by
    have ih := sumAbs_lines S e s hs l (i + 1)
    have e1 : sumAbs (linesFrom S e s i (x :: l)) = absI (s * x.amount) + sumAbs (linesFrom S e s (i + 1) l) := sumAbs_cons _ _
    have e2 : absI (s * x.amount) = absI x.amount := by
      rcases hs with rfl | rfl
      · rw [Int.one_mul]
      · unfold absI; split <;> split <;> omega
    rw [e1, ih, e2]
    simp

/-- Every key is a taken event's. -/
def KeysFrom (t : ToldS) : Prop := ∀ k ∈ t.S.keys, ∃ e ∈ t.T, e.key = k
theorem keysFrom_tell {t : ToldS} {e : EventV} (h : KeysFrom t) : KeysFrom (tellF t e) := by
  by_cases hc : checkE t.S e = 0
  · rw [tellF_yes hc]
    intro k hk
    have hk : k ∈ (applyS t.S e).keys := hk
    rw [apply_keys hc] at hk
    have old : k ∈ t.S.keys → ∃ x ∈ t.T ++ [e], x.key = k := fun hm => by
      obtain ⟨x, hx, hxk⟩ := h k hm
      exact ⟨x, List.mem_append_left _ hx, hxk⟩
    split at hk
    · rcases List.mem_append.1 hk with hm | hm
      · exact old hm
      · rw [List.mem_singleton] at hm
        exact ⟨e, by simp, hm.symm⟩
    · exact old hk
  · rw [tellF_no hc]
    exact h
theorem keysFrom_tells {l : List EventV} : ∀ {t : ToldS}, KeysFrom t → KeysFrom (tellsF t l) := by
  induction l with
  | nil => intro t h; exact h
  | cons e l ih => intro t h; exact ih (keysFrom_tell h)
theorem keysFrom_new : KeysFrom toldNew := fun k hk => by simp [toldNew, newS] at hk
theorem tells_len {l : List EventV} : ∀ {t : ToldS}, (tellsF t l).T.length ≤ t.T.length + l.length := by
  induction l with
  | nil => intro t; exact Nat.le_refl _
  | cons e l ih =>
    intro t
    have h1 := ih (t := tellF t e)
    have h2 : (tellF t e).T.length ≤ t.T.length + 1 := by
      unfold tellF
      split
      · simp
      · omega
    rw [List.length_cons]
    show (tellsF (tellF t e) l).T.length ≤ _
    omega

section
variable {S : BookS} {x : EventV} {d : Int}
/-- What a posting and its void leave. -/
structure VoidEnd (S : BookS) (x : EventV) (d : Int) : Prop where
  len : (rowsOf (applyS S x) (voidE d void0 x.key)).length = (rowsOf S x).length
  row : ∀ k (h1 : k < (rowsOf (applyS S x) (voidE d void0 x.key)).length) (h2 : k < (rowsOf S x).length), (rowsOf (applyS S x) (voidE d void0 x.key))[k].account = (rowsOf S x)[k].account ∧
    (rowsOf (applyS S x) (voidE d void0 x.key))[k].amount = -(rowsOf S x)[k].amount ∧ (rowsOf (applyS S x) (voidE d void0 x.key))[k].tag = (rowsOf S x)[k].tag
  abs : sumAbs (rowsOf (applyS S x) (voidE d void0 x.key)) = sumAbs (rowsOf S x)
  own : ∀ acc, ownF (applyS (applyS S x) (voidE d void0 x.key)).rows acc = ownF S.rows acc
  turn : (applyS (applyS S x) (voidE d void0 x.key)).turnover = S.turnover + 2 * sumAbs (rowsOf S x)
  again : (applyS (applyS S x) (voidE d void0 x.key)).events < 1000 → checkE (applyS (applyS S x) (voidE d void0 x.key)) (voidE d void1 x.key) = if usedB (applyS (applyS S x) (voidE d void0 x.key)) void1 = true then 70 else 74

theorem entry_post (ho : OkS S) (hk : x.kind = 3) (hc : checkE S x = 0) : entryOf (applyS S x) x.key = some ⟨x.key, x.day, x.lines, emptyB⟩ := by
  have ht := taken_of hc
  have hf : (S.entries.find? fun y => decide (y.key = x.key)) = none := by
    rw [List.find?_eq_none]
    intro y hy
    have := ho.entIn y hy
    simp only [decide_eq_true_eq]
    intro e
    exact ht.fresh (by unfold keyedB; simp [hk]) (e ▸ this)
  rw [applyS_yes hc]
  have h1 : (keepS (tookS S x) x).entries = S.entries ++ [⟨x.key, x.day, x.lines, emptyB⟩] := by unfold keepS; simp [hk, tookS]
  unfold entryOf
  rw [h1, List.find?_append, hf]
  simp
theorem find_void (k v : ByteArray) : ∀ (l : List EntryV), ((voidL k v l).find? fun y => decide (y.key = k)) = (l.find? fun y => decide (y.key = k)).map fun y => { y with void := v }
  | [] => rfl
  | y :: l => by
    unfold voidL
    by_cases h : y.key = k
    · rw [if_pos h, List.find?_cons_of_pos (by simpa using h), List.find?_cons_of_pos (by simpa using h)]
      rfl
    · rw [if_neg h, List.find?_cons_of_neg (by simpa using h), List.find?_cons_of_neg (by simpa using h)]
      exact find_void k v l

theorem void_end (ho : OkS S) (hk : x.kind = 3) (hc : checkE S x = 0) (hv : checkE (applyS S x) (voidE d void0 x.key) = 0) : VoidEnd S x d := by
  have hent := entry_post ho hk hc
  have hr1 : rowsOf S x = linesRows S x 1 x.lines := by unfold rowsOf; rw [if_pos hk]
  have hr2 : rowsOf (applyS S x) (voidE d void0 x.key) = linesRows (applyS S x) (voidE d void0 x.key) (-1) x.lines := by
    unfold rowsOf
    rw [if_neg (by show ¬ (4 : Int) = 3; omega), if_pos (show (voidE d void0 x.key).kind = 4 from rfl)]
    rw [show (voidE d void0 x.key).ref = x.key from rfl, hent]
  have hn1 := apply_nums hc
  have hn2 := apply_nums hv
  have habs : sumAbs (rowsOf (applyS S x) (voidE d void0 x.key)) = sumAbs (rowsOf S x) := by
    rw [hr1, hr2]
    unfold linesRows
    rw [sumAbs_lines _ _ _ (.inr rfl), sumAbs_lines _ _ _ (.inl rfl)]
  refine ⟨by rw [hr1, hr2, linesRows_len, linesRows_len], fun k h1 h2 => ?_, habs, fun acc => ?_, by rw [hn2.1, hn1.1, habs]; omega, fun hev => ?_⟩
  · have hkl : k < x.lines.length := by have := h2; rw [hr1, linesRows_len] at this; exact this
    have a1 := linesFrom_get S x 1 x.lines 0 k hkl (by have := h2; rw [hr1] at this; exact this)
    have a2 := linesFrom_get (applyS S x) (voidE d void0 x.key) (-1) x.lines 0 k hkl (by have := h1; rw [hr2] at this; exact this)
    have e1 : (rowsOf S x)[k] = (linesFrom S x 1 0 x.lines)[k]'(by have := h2; rw [hr1] at this; exact this) := by simp only [hr1]; rfl
    have e2 : (rowsOf (applyS S x) (voidE d void0 x.key))[k] = (linesFrom (applyS S x) (voidE d void0 x.key) (-1) 0 x.lines)[k]'(by have := h1; rw [hr2] at this; exact this) := by simp only [hr2]; rfl
    rw [e1, e2, a1.1, a2.1, a1.2.1, a2.2.1, a1.2.2, a2.2.2]
    exact ⟨rfl, by omega, rfl⟩
  · have rows2 : (applyS (applyS S x) (voidE d void0 x.key)).rows = (S.rows ++ rowsOf S x) ++ rowsOf (applyS S x) (voidE d void0 x.key) := by
      rw [applyS_yes hv, keepS_rows]
      show (applyS S x).rows ++ _ = _
      rw [applyS_yes hc, keepS_rows]
      rfl
    rw [rows2, ownF_append, ownF_append, hr1, hr2]
    unfold linesRows
    rw [ownF_lines, ownF_lines]
    omega
  · have htv := taken_of hv
    have hday := lock_day hv
    have hlk : (applyS (applyS S x) (voidE d void0 x.key)).lock = (applyS S x).lock := by
      rw [apply_lock hv, if_neg (by show ¬ (4 : Int) = 8; omega)]
    have hevb : evB (voidE d void1 x.key) = true := by
      have h0 := htv.ev
      unfold evB at h0 ⊢
      simp only [Bool.and_eq_true] at h0 ⊢
      refine ⟨⟨h0.1.1, ?_⟩, ?_⟩
      · have hf := h0.1.2
        unfold fieldsB at hf ⊢
        have k4 : (voidE d void0 x.key).kind = 4 := rfl
        have k4' : (voidE d void1 x.key).kind = 4 := rfl
        rw [k4] at hf
        rw [k4']
        simp only [show ¬ (4 : Int) = 1 by omega, show ¬ (4 : Int) = 2 by omega, show ¬ (4 : Int) = 3 by omega, if_false, if_true, Bool.and_eq_true] at hf ⊢
        exact ⟨⟨by show keyB void1 = true; decide, hf.1.2⟩, hf.2⟩
      · have hf := h0.2
        unfold ownB bareB at hf ⊢
        have k4 : (voidE d void0 x.key).kind = 4 := rfl
        have k4' : (voidE d void1 x.key).kind = 4 := rfl
        rw [k4] at hf
        rw [k4']
        simp only [show ¬ (4 : Int) = 1 by omega, show ¬ (4 : Int) = 2 by omega, show ¬ (4 : Int) = 3 by omega, if_false, if_true, Bool.true_or, Bool.true_and, Bool.false_or] at hf ⊢
        exact hf
    have hent2 : entryOf (applyS (applyS S x) (voidE d void0 x.key)) x.key = some ⟨x.key, x.day, x.lines, void0⟩ := by
      rw [applyS_yes hv]
      have h1 : (keepS (tookS (applyS S x) (voidE d void0 x.key)) (voidE d void0 x.key)).entries = voidL x.key void0 (applyS S x).entries := by
        unfold keepS
        simp [voidE, tookS]
      unfold entryOf at hent ⊢
      rw [h1, find_void, hent]
      rfl
    have hrefu : refuseE (applyS (applyS S x) (voidE d void0 x.key)) (voidE d void1 x.key) = 74 := by
      have : refuseE (applyS (applyS S x) (voidE d void0 x.key)) (voidE d void1 x.key) = mayVoidE (applyS (applyS S x) (voidE d void0 x.key)) (voidE d void1 x.key) := by unfold refuseE; simp [voidE]
      rw [this]
      unfold mayVoidE
      rw [show (voidE d void1 x.key).ref = x.key from rfl, hent2]
      simp [nilB, void0]
    unfold checkE
    rw [if_neg (by rw [hevb]; simp), if_neg (by omega)]
    have hke : keyedB (voidE d void1 x.key).kind = true := by show keyedB 4 = true; decide
    rw [hke, Bool.true_and]
    rw [show (voidE d void1 x.key).key = void1 from rfl]
    by_cases hu : usedB (applyS (applyS S x) (voidE d void0 x.key)) void1 = true
    · rw [if_pos hu, if_pos hu]
    · rw [if_neg hu, if_neg hu, if_neg (by
        rintro ⟨_, h⟩
        rw [hlk] at h
        have hd : (voidE d void1 x.key).day = (voidE d void0 x.key).day := rfl
        omega), hrefu]
      rfl
end
end Go.Proofs.YtgocoofcelggcaaGreatDoor
