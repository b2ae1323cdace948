/- append onto a row of one's own: where the new row lies in a new block, all older blocks are as they were; daybookref05, daybookref06: names; daybookref06: Parent, Root, Under; lists of texts alike; daybookref06: the chart as one list in memory: at, Find, May, Kids, Accounts; daybooklaw06: sameAccounts of two rows of the same accounts; rows of names of one's own; daybookref06: Is, fits, From. Printed by gen_ref6o.py. -/
import Derived.Test.YtplocldnklccfaaGreatDoorPack4
import Derived.Deep.QuietTactic
import Derived.Test.YtplocldnklccfaaGreatDoorPack3
import Derived.OwnWalk
import Derived.BigQuiet
namespace Go.Proofs.YtplocldnklccfaaGreatDoor
open Go.RowKit
set_option linter.unusedVariables false
set_option linter.unusedSimpArgs false

theorem run_append_keeps {P : Program} (w : World) (base : Nat) (t ty e : TypeId) (i : TypeInfo) (z : Value) (size bytes : Nat) (ht : P.underlying t = some (.slice e)) (hi : P.info? e = some i) (hz : i.zero = some z)
    (hsize : i.size = size) (hby : i.bytes = bytes) (hzs : z.cells.size = size) (hsz : 0 < size)
    (v : Value) (n : Nat) (xs : List Value) (hown : w.ownsRow base e size v n xs)
    (a : Addr) (m c : Nat) (news : List Value) (hl : news.length = m * size) (hnews : ∀ j u, news[j]? = some u → w.cell? (a.add j) = some u) (h1 : ∀ u ∈ news, u.oneCell' = true)
    (hm : 0 < m) (h63 : n + m ≤ maxLen) (hbytes : (n + m) * bytes ≤ 140737488355328) (hbase : base ≤ w.heap.size) :
    ∃ g cap w', (Builtin.append_ #[t, t] ty #[v, .slice (some a) m c]).run P w = .ok (.slice (some ⟨g, 0, none⟩) (n + m) cap) w' ∧ w'.ownsRow base e size (.slice (some ⟨g, 0, none⟩) (n + m) cap) (n + m) (xs ++ news) ∧ w.grownBy w' v.ownBlock ∧
      (v.ownBlock = some g ∨ (g = w.heap.size ∧ w.grownBy w' none)) := by
  obtain ⟨g, cap, w', hr, h2, h3, h4, h5⟩ := run_append_lies (P := P) w t ty base e i z size bytes ht hi hz hsize hby hzs hsz v n xs hown a m c news hl hnews h1 hm h63 hbytes hbase w.heap.size rfl
  refine ⟨g, cap, w', hr, h2, h3, ?_⟩
  rcases h4 with h4 | h4
  · exact .inl h4
  · right
    refine ⟨h4, ?_⟩
    rcases hown.2 with ⟨hv, h0⟩ | ⟨b, k, cur, hv, hbb, hb, hnk, hkm, hcs, htk⟩
    · rw [hv] at h3
      exact h3
    · subst hv
      have hbl := (Array.getElem?_eq_some_iff.1 hb).1
      by_cases hroom : n + m ≤ k
      · exfalso
        have hfit : n * i.size + news.length ≤ cur.size := by rw [hl, hcs, hsize, ← Nat.add_mul]; exact Nat.mul_le_mul_right _ hroom
        have hr2 := run_append_room (P := P) w t ty e i ht hi b n k cur hb a m c news (by rw [hsize]; exact hl) hnews h1 hroom hfit
        rw [hr] at hr2
        have he : (Value.slice (some ⟨g, 0, none⟩) (n + m) cap : Value) = .slice (some ⟨b, 0, none⟩) (n + m) k := by injection hr2
        injection he with h6 _ _
        have h7 : g = b := by injection h6 with h6; injection h6
        omega
      · have h64 : n + m ≤ 9223372036854775807 := by unfold maxLen at h63; omega
        have hr2 := run_append_grow (P := P) w t ty e i z ht hi hz ⟨b, 0, none⟩ n k xs (by rw [hsize]; exact hown.1) (hown.cells (g := b) rfl) a m c news (by rw [hsize]; exact hl) hnews (by omega) (by omega) (growslice_fits (by omega) (by rw [hby]; exact hbytes))
        rw [hr] at hr2
        injection hr2 with _ he
        rw [he]
        exact ⟨rfl, rfl, rfl, by simp, fun q hq _ => Below.heap_alloc w.drew _ q hq⟩
theorem wpList_append_keeps {P : Program} {w : World} {ops : Array Oper} {rest : List Oper} {o : Oper} {a : Act} {Q : Exit → Act → World → Prop} (hgd : o.guard = none) (s x : Operand) (t : TypeId)
    (ho : o.op = .call { callee := .builtin .append, args := #[s, x], argTypes := #[t, t] })
    (base : Nat) (e : TypeId) (i : TypeInfo) (z : Value) (size bytes : Nat) (ht : P.underlying t = some (.slice e)) (hi : P.info? e = some i) (hz : i.zero = some z)
    (hsize : i.size = size) (hby : i.bytes = bytes) (hzs : z.cells.size = size) (hsz : 0 < size)
    (v : Value) (n : Nat) (xs : List Value) (hs : a.eval s = v) (hown : w.ownsRow base e size v n xs)
    (ad : Addr) (m c : Nat) (news : List Value) (hx : a.eval x = .slice (some ad) m c) (hl : news.length = m * size) (hnews : ∀ j u, news[j]? = some u → w.cell? (ad.add j) = some u) (h1 : ∀ u ∈ news, u.oneCell' = true)
    (hm : 0 < m) (h63 : n + m ≤ maxLen) (hbytes : (n + m) * bytes ≤ 140737488355328) (hbase : base ≤ w.heap.size)
    (h : ∀ g cap w', w'.ownsRow base e size (.slice (some ⟨g, 0, none⟩) (n + m) cap) (n + m) (xs ++ news) → w.grownBy w' v.ownBlock → (v.ownBlock = some g ∨ (g = w.heap.size ∧ w.grownBy w' none)) → wpList P ops Q rest (a.put o.dst (.slice (some ⟨g, 0, none⟩) (n + m) cap)) w') :
    wpList P ops Q (o :: rest) a w := by
  refine wpList_plain hgd fun K hK => ?_
  obtain ⟨g, cap, w', hr, h2, h3, h4⟩ := run_append_keeps (P := P) w base t o.type e i z size bytes ht hi hz hsize hby hzs hsz v n xs hown ad m c news hl hnews h1 hm h63 hbytes hbase
  unfold Oper.wp execOp
  simp only [ho, resolve, invoke, builtin, Sem.run_bind, Sem.run_pure, Result.andThen_ok, List.map_toArray, List.map_cons, List.map_nil, hs, hx, hr]
  exact hK _ _ (h g cap w' h2 h3 h4)
theorem step_append_keeps {P : Program} {w : World} {ops : Array Oper} {o : Oper} {a : Act} {K : Act → World → Prop} {Q : Exit → Act → World → Prop} {E : Prop} (hgd : o.guard = none) (s x : Operand) (t : TypeId)
    (ho : o.op = .call { callee := .builtin .append, args := #[s, x], argTypes := #[t, t] })
    (base : Nat) (e : TypeId) (i : TypeInfo) (z : Value) (size bytes : Nat) (ht : P.underlying t = some (.slice e)) (hi : P.info? e = some i) (hz : i.zero = some z)
    (hsize : i.size = size) (hby : i.bytes = bytes) (hzs : z.cells.size = size) (hsz : 0 < size)
    (v : Value) (n : Nat) (xs : List Value) (hs : a.eval s = v) (hown : w.ownsRow base e size v n xs)
    (ad : Addr) (m c : Nat) (news : List Value) (hx : a.eval x = .slice (some ad) m c) (hl : news.length = m * size) (hnews : ∀ j u, news[j]? = some u → w.cell? (ad.add j) = some u) (h1 : ∀ u ∈ news, u.oneCell' = true)
    (hm : 0 < m) (h63 : n + m ≤ maxLen) (hbytes : (n + m) * bytes ≤ 140737488355328) (hbase : base ≤ w.heap.size)
    (h : ∀ g cap w', w'.ownsRow base e size (.slice (some ⟨g, 0, none⟩) (n + m) cap) (n + m) (xs ++ news) → w.grownBy w' v.ownBlock → (v.ownBlock = some g ∨ (g = w.heap.size ∧ w.grownBy w' none)) → K (a.put o.dst (.slice (some ⟨g, 0, none⟩) (n + m) cap)) w') :
    if Region.wanted o (yielded ops a.tmps) = true then Oper.wp P o a w K Q else E := by
  have hw : Region.wanted o (yielded ops a.tmps) = true := by simp [Region.wanted, hgd]
  rw [if_pos hw]
  obtain ⟨g, cap, w', hr, h2, h3, h4⟩ := run_append_keeps (P := P) w base t o.type e i z size bytes ht hi hz hsize hby hzs hsz v n xs hown ad m c news hl hnews h1 hm h63 hbytes hbase
  unfold Oper.wp execOp
  simp only [ho, resolve, invoke, builtin, Sem.run_bind, Sem.run_pure, Result.andThen_ok, List.map_toArray, List.map_cons, List.map_nil, hs, hx, hr]
  exact h g cap w' h2 h3 h4
/-- The row that was appended to still shows what it showed. -/
theorem head_stays {w w' : World} {R : Nat → Prop} {e s n m c cap g : Nat} {A : Option Addr} {xs : List (List Value)} {ys : List Value} {v : Value} {B : Nat} (hL : RowAt w R s (.slice A xs.length c) xs) (hs : ∀ x ∈ xs, x.length = s)
    (hn : n = xs.length + m) (hown : w'.ownsRow B e s (.slice (some ⟨g, 0, none⟩) n cap) n (xs.flatten ++ ys)) (hgr : w.grownBy w' v.ownBlock) (hat : v.ownBlock = some g ∨ (g = w.heap.size ∧ w.grownBy w' none))
    (hv : ∀ q, v.ownBlock = some q → (∀ ad, A = some ad → ad.block = q → ad = ⟨q, 0, none⟩)) : RowAt w' R s (.slice A xs.length c) xs := by
  obtain ⟨A', c', hf, hx⟩ := hL
  injection hf with h1 _ h2
  subst h1 h2
  refine ⟨A, c, rfl, fun j hj => ?_⟩
  obtain ⟨ad, e1, hl, hR, hc⟩ := hx j hj
  have keep : ∀ (row : Option Nat), w.grownBy w' row → (∀ q, row = some q → ad.block ≠ q) → ∃ ad, A = some ad ∧ ad.block < w'.heap.size ∧ R ad.block ∧ ∀ i u, xs[j][i]? = some u → w'.cell? ((ad.add (j * s)).add i) = some u := fun row hg hne =>
    ⟨ad, e1, by have := hg.size; omega, hR, fun i u hu => by
      rw [← hc i u hu]
      exact World.cell?_of_block (by rw [block_add, block_add]; exact hg.block _ hl fun e => hne _ e.symm rfl)⟩
  rcases hat with hat | ⟨_, hat⟩
  · by_cases hb : ad.block = g
    · have had := hv g hat ad e1 hb
      subst had
      refine ⟨⟨g, 0, none⟩, e1, (hown.lt g rfl).2, hR, fun i u hu => ?_⟩
      have hi : i < s := by rw [← hs _ (List.getElem_mem hj)]; exact (List.getElem?_eq_some_iff.1 hu).1
      have hlf : xs.flatten[j * s + i]? = some u := by
        have h3 : ∀ (ys : List (List Value)), (∀ x ∈ ys, x.length = s) → ∀ j (hj : j < ys.length) i u, ys[j][i]? = some u → ys.flatten[j * s + i]? = some u := fun ys h => flat_get ys h
        exact h3 xs hs j hj i u hu
      have := hown.cells (g := g) rfl (j * s + i) u (by rw [List.getElem?_append_left (List.getElem?_eq_some_iff.1 hlf).1]; exact hlf)
      rw [Addr.add_lit] at this
      rw [Addr.add_lit, Addr.add_lit]
      simpa [Nat.add_assoc] using this
    · exact keep _ hgr fun q e => by rw [hat] at e; obtain rfl : g = q := Option.some.inj e; exact hb
  · exact keep _ hat fun q e => by cases e
end Go.Proofs.YtplocldnklccfaaGreatDoor
namespace Go.Proofs.YtplocldnklccfaaGreatDoor
open Go.RowKit Go.Shelf
set_option linter.unusedVariables false
set_option linter.unusedSimpArgs false

/-! ### The scan, step by step -/
theorem scan_colon (p z : Nat) (r : List UInt8) : scanN p z (58 :: r) = if z = 0 then false else scanN (p + 1) 0 r := by
  show (if (58 : UInt8) = 58 then _ else _) = _
  rw [if_pos rfl]
theorem scan_bad {p z : Nat} {c : UInt8} (r : List UInt8) (hc : c ≠ 58) (h : (z = 0 ∧ ¬ upP c) ∨ ¬ nameP c) : scanN p z (c :: r) = false := by
  show (if c = 58 then _ else _) = _
  rw [if_neg hc, if_pos h]
theorem scan_long {p z : Nat} {c : UInt8} (r : List UInt8) (hc : c ≠ 58) (hz : 16 < z + 1) : scanN p z (c :: r) = false := by
  show (if c = 58 then _ else _) = _
  rw [if_neg hc]
  split
  · rfl
  · first | rfl | rw [if_pos hz]
theorem scan_ok {p z : Nat} {c : UInt8} (r : List UInt8) (hc : c ≠ 58) (h : ¬ ((z = 0 ∧ ¬ upP c) ∨ ¬ nameP c)) (hz : ¬ 16 < z + 1) : scanN p z (c :: r) = scanN p (z + 1) r := by
  conv => lhs; unfold scanN
  rw [if_neg hc, if_neg h, if_neg hz]
def lowP (c : UInt8) : Prop := 97 ≤ c.toNat ∧ c.toNat ≤ 122
def digP (c : UInt8) : Prop := 48 ≤ c.toNat ∧ c.toNat ≤ 57
instance (c : UInt8) : Decidable (lowP c) := by unfold lowP; infer_instance
instance (c : UInt8) : Decidable (digP c) := by unfold digP; infer_instance
theorem name_iff (c : UInt8) : nameP c ↔ upP c ∨ lowP c ∨ digP c ∨ c.toNat = 45 := Iff.rfl

theorem upper_any (c : UInt8) (w : World) : Calls Tryz.prog 80 #[.int .u8 (c.toNat : Int)] w fun e w' => e = .returned (.bool (decide (upP c))) ∧ w' = w := by
  have hd : decide (upP c) = (decide ((65 : Int) ≤ (c.toNat : Int)) && decide ((c.toNat : Int) ≤ 90)) := by
    have e : upP c ↔ ((65 : Int) ≤ (c.toNat : Int) ∧ (c.toNat : Int) ≤ 90) := by unfold upP; omega
    rw [← Bool.decide_and]
    exact decide_eq_decide.2 e
  rw [hd]
  by_cases h1 : (65 : Int) ≤ (c.toNat : Int)
  · by_cases h2 : (c.toNat : Int) ≤ 90
    · rw [decide_eq_true h1, decide_eq_true h2]
      clear hd
      go_enter Tryz.func80, Tryz.ntmps80
      go_wp2
      go_ret
      exact ⟨rfl, rfl⟩
    · rw [decide_eq_false h2, Bool.and_false]
      clear hd
      go_enter Tryz.func80, Tryz.ntmps80
      go_wp2
      go_ret
      exact ⟨rfl, rfl⟩
  · rw [decide_eq_false h1, Bool.false_and]
    clear hd
    go_enter Tryz.func80, Tryz.ntmps80
    go_wp2
    go_ret
    exact ⟨rfl, rfl⟩
theorem lower_any (c : UInt8) (w : World) : Calls Tryz.prog 81 #[.int .u8 (c.toNat : Int)] w fun e w' => e = .returned (.bool (decide (lowP c))) ∧ w' = w := by
  have hd : decide (lowP c) = (decide ((97 : Int) ≤ (c.toNat : Int)) && decide ((c.toNat : Int) ≤ 122)) := by
    have e : lowP c ↔ ((97 : Int) ≤ (c.toNat : Int) ∧ (c.toNat : Int) ≤ 122) := by unfold lowP; omega
    rw [← Bool.decide_and]
    exact decide_eq_decide.2 e
  rw [hd]
  by_cases h1 : (97 : Int) ≤ (c.toNat : Int)
  · by_cases h2 : (c.toNat : Int) ≤ 122
    · rw [decide_eq_true h1, decide_eq_true h2]
      clear hd
      go_enter Tryz.func81, Tryz.ntmps81
      go_wp2
      go_ret
      exact ⟨rfl, rfl⟩
    · rw [decide_eq_false h2, Bool.and_false]
      clear hd
      go_enter Tryz.func81, Tryz.ntmps81
      go_wp2
      go_ret
      exact ⟨rfl, rfl⟩
  · rw [decide_eq_false h1, Bool.false_and]
    clear hd
    go_enter Tryz.func81, Tryz.ntmps81
    go_wp2
    go_ret
    exact ⟨rfl, rfl⟩
theorem digit_any (c : UInt8) (w : World) : Calls Tryz.prog 82 #[.int .u8 (c.toNat : Int)] w fun e w' => e = .returned (.bool (decide (digP c))) ∧ w' = w := by
  have hd : decide (digP c) = (decide ((48 : Int) ≤ (c.toNat : Int)) && decide ((c.toNat : Int) ≤ 57)) := by
    have e : digP c ↔ ((48 : Int) ≤ (c.toNat : Int) ∧ (c.toNat : Int) ≤ 57) := by unfold digP; omega
    rw [← Bool.decide_and]
    exact decide_eq_decide.2 e
  rw [hd]
  by_cases h1 : (48 : Int) ≤ (c.toNat : Int)
  · by_cases h2 : (c.toNat : Int) ≤ 57
    · rw [decide_eq_true h1, decide_eq_true h2]
      clear hd
      go_enter Tryz.func82, Tryz.ntmps82
      go_wp2
      go_ret
      exact ⟨rfl, rfl⟩
    · rw [decide_eq_false h2, Bool.and_false]
      clear hd
      go_enter Tryz.func82, Tryz.ntmps82
      go_wp2
      go_ret
      exact ⟨rfl, rfl⟩
  · rw [decide_eq_false h1, Bool.false_and]
    clear hd
    go_enter Tryz.func82, Tryz.ntmps82
    go_wp2
    go_ret
    exact ⟨rfl, rfl⟩

theorem drop_at (s : ByteArray) (k : Nat) (hk : k < s.size) : s.data.toList.drop k = s[k] :: s.data.toList.drop (k + 1) := by
  have hl : k < s.data.toList.length := by rw [data_len]; exact hk
  rw [List.drop_eq_getElem_cons hl, data_get s k hk]
structure NameInv (s : ByteArray) (w : World) (pv zv iv : Value) (wr : World) (k p z : Nat) : Prop where
  le : k ≤ s.size
  ei : iv = .int .i64 (k : Int)
  ep : pv = .int .i64 (p : Int)
  ez : zv = .int .i64 (z : Int)
  pk : p ≤ k + 1
  z16 : z ≤ 16
  scan : scanN p z (s.data.toList.drop k) = scanN 1 0 s.data.toList
  same : wr = w
theorem name_nums (n k p z : Nat) (hs : n ≤ 1048576) (hlt : k < n) (hpk : p ≤ k + 1) (hz : z ≤ 16) : n - ((k : Int) + 1).toNat < n - k ∧ wrap64 ((k : Int) + 1) = (k : Int) + 1 ∧ IntKind.i64.wrap ((k : Int) + 1) = (k : Int) + 1 ∧
    wrap64 ((p : Int) + 1) = (p : Int) + 1 ∧ IntKind.i64.wrap ((p : Int) + 1) = (p : Int) + 1 ∧ wrap64 ((z : Int) + 1) = (z : Int) + 1 ∧ IntKind.i64.wrap ((z : Int) + 1) = (z : Int) + 1 := by
  refine ⟨by omega, by unfold wrap64; omega, IntWalk.i64_in _ (by omega), by unfold wrap64; omega, IntWalk.i64_in _ (by omega), by unfold wrap64; omega, IntWalk.i64_in _ (by omega)⟩
theorem byte_ne {c d : UInt8} (h : c ≠ d) : ((c.toNat : Int) == (d.toNat : Int)) = false := by
  rw [beq_eq_false_iff_ne]
  intro e
  exact h (UInt8.toNat_inj.1 (by omega))
theorem not_name {c : UInt8} (h1 : ¬ upP c) (h2 : ¬ lowP c) (h3 : ¬ digP c) (h4 : c ≠ 45) : ¬ nameP c := by
  intro h
  rcases (name_iff c).1 h with h | h | h | h
  · exact h1 h
  · exact h2 h
  · exact h3 h
  · exact h4 (UInt8.toNat_inj.1 h)
set_option maxRecDepth 100000 in
set_option maxHeartbeats 8000000 in
theorem refName_any (s : ByteArray) (w : World) (hs : s.size ≤ 1048576) :
    Calls Tryz.prog 25 #[.string s] w fun e w' => e = .returned (.bool (goodB s.data.toList)) ∧ w' = w := by
  obtain ⟨R, hR⟩ : ∃ R, R = goodB s.data.toList := ⟨_, rfl⟩
  rw [← hR]
  rw [← scan_good] at hR
  have HR := Lib.hid hR
  clear hR
  go_enter Tryz.func25, Tryz.ntmps25
  go_wp2
  go_loopw [3, 4, 5] (fun pv zv iv wr => ∃ k p z, NameInv s w pv zv iv wr k p z) (fun _ _ iv _ => s.size - (intOf iv).toNat)
  case atStart => exact ⟨0, 1, 0, Nat.zero_le _, rfl, rfl, rfl, Nat.le_refl _, Nat.zero_le _, by rw [List.drop_zero], rfl⟩
  case round =>
    obtain ⟨k, p, z, hk, rfl, rfl, rfl, hpk, hz16, hsc, hsame⟩ := hrel
    obtain rfl := hsame.symm
    by_cases hlt : k < s.size
    · have hd := drop_at s k hlt
      have HSD := Lib.hid (show scanN p z (s[k] :: s.data.toList.drop (k + 1)) = R by rw [← hd, HR.out]; exact hsc)
      obtain ⟨U, hU⟩ : ∃ U, U = decide (upP s[k]) := ⟨_, rfl⟩
      obtain ⟨L, hL⟩ : ∃ U, U = decide (lowP s[k]) := ⟨_, rfl⟩
      obtain ⟨D, hD⟩ : ∃ U, U = decide (digP s[k]) := ⟨_, rfl⟩
      have hup := fun W => upper_any s[k] W
      have hlo := fun W => lower_any s[k] W
      have hdi := fun W => digit_any s[k] W
      rw [← hU] at hup
      rw [← hL] at hlo
      rw [← hD] at hdi
      have HUU := Lib.hid hU
      have HLL := Lib.hid hL
      have HDD := Lib.hid hD
      obtain ⟨hmu, hw1, hw1', hw2, hw2', hw3, hw3'⟩ := name_nums s.size k p z hs hlt hpk hz16
      have HN := Lib.hid (And.intro hlt (And.intro hpk hz16))
      clear hd hsc hU hL hD hpk hz16 hk
      by_cases h58 : s[k] = 58
      · have b58 : ((s[k].toNat : Int) == 58) = true := by rw [h58]; rfl
        have H58 := Lib.hid h58
        clear h58
        by_cases hz : z = 0
        · subst hz
          have hf : Hid (R = false) := Lib.hid (by rw [← HSD.out]; exact by rw [H58.out, scan_colon, if_pos rfl])
          as_aux_lemma =>
            go_wp2_with (first
              | (go_at_call 80; refine (hup _).mono ?_; rintro e w' ⟨rfl, hw⟩; obtain rfl := hw.symm)
              | (go_at_call 81; refine (hlo _).mono ?_; rintro e w' ⟨rfl, hw⟩; obtain rfl := hw.symm)
              | (go_at_call 82; refine (hdi _).mono ?_; rintro e w' ⟨rfl, hw⟩; obtain rfl := hw.symm))
            go_ret
            rw [hf.out]
            exact ⟨rfl, rfl⟩
        · have bz : ((z : Int) == 0) = false := by simpa using hz
          have HZ := Lib.hid hz
          clear hz
          have hf : Hid (scanN (p + 1) 0 (s.data.toList.drop (k + 1)) = scanN 1 0 s.data.toList) := Lib.hid (by rw [← HR.out, ← HSD.out]; exact Eq.symm (by rw [H58.out, scan_colon, if_neg HZ.out]))
          as_aux_lemma =>
            go_wp2_with (first
              | (go_at_call 80; refine (hup _).mono ?_; rintro e w' ⟨rfl, hw⟩; obtain rfl := hw.symm)
              | (go_at_call 81; refine (hlo _).mono ?_; rintro e w' ⟨rfl, hw⟩; obtain rfl := hw.symm)
              | (go_at_call 82; refine (hdi _).mono ?_; rintro e w' ⟨rfl, hw⟩; obtain rfl := hw.symm))
            go_roundw
            case rel => exact ⟨k + 1, p + 1, 0, Nat.succ_le_of_lt HN.out.1, by go_num, by go_num, by go_num, by have := HN.out.2.1; omega, Nat.zero_le _, hf.out, rfl⟩
            case measure => simpa [intOf] using hmu
      · have b58 : ((s[k].toNat : Int) == 58) = false := byte_ne h58
        have H58 := Lib.hid h58
        clear h58
        by_cases hz : z = 0
        · subst hz
          cases U with
          | false =>
            have hf : Hid (R = false) := Lib.hid (by rw [← HSD.out]; exact scan_bad _ H58.out (.inl ⟨rfl, of_decide_eq_false HUU.out.symm⟩))
            as_aux_lemma =>
              go_wp2_with (first
                | (go_at_call 80; refine (hup _).mono ?_; rintro e w' ⟨rfl, hw⟩; obtain rfl := hw.symm)
                | (go_at_call 81; refine (hlo _).mono ?_; rintro e w' ⟨rfl, hw⟩; obtain rfl := hw.symm)
                | (go_at_call 82; refine (hdi _).mono ?_; rintro e w' ⟨rfl, hw⟩; obtain rfl := hw.symm))
              go_ret
              rw [hf.out]
              exact ⟨rfl, rfl⟩
          | true =>
            have hf : Hid (scanN p (0 + 1) (s.data.toList.drop (k + 1)) = scanN 1 0 s.data.toList) := Lib.hid (by rw [← HR.out, ← HSD.out]; exact (scan_ok _ H58.out (fun h => by rcases h with ⟨_, h⟩ | h; exact h (of_decide_eq_true HUU.out.symm); exact h (up_name (of_decide_eq_true HUU.out.symm))) (by omega)).symm)
            as_aux_lemma =>
              go_wp2_with (first
                | (go_at_call 80; refine (hup _).mono ?_; rintro e w' ⟨rfl, hw⟩; obtain rfl := hw.symm)
                | (go_at_call 81; refine (hlo _).mono ?_; rintro e w' ⟨rfl, hw⟩; obtain rfl := hw.symm)
                | (go_at_call 82; refine (hdi _).mono ?_; rintro e w' ⟨rfl, hw⟩; obtain rfl := hw.symm))
              go_roundw
              case rel => exact ⟨k + 1, p, 0 + 1, Nat.succ_le_of_lt HN.out.1, by go_num, by go_num, by go_num, by have := HN.out.2.1; omega, by omega, hf.out, rfl⟩
              case measure => simpa [intOf] using hmu
        · have bz : ((z : Int) == 0) = false := by simpa using hz
          have HZ := Lib.hid hz
          clear hz
          by_cases h16 : 16 < z + 1
          · have h16' : (16 : Int) < (z : Int) + 1 := by omega
            have H16 := Lib.hid h16
            clear h16
            cases U with
            | true =>
              have hf : Hid (R = false) := Lib.hid (by rw [← HSD.out]; exact scan_long _ H58.out H16.out)
              as_aux_lemma =>
                go_wp2_with (first
                  | (go_at_call 80; refine (hup _).mono ?_; rintro e w' ⟨rfl, hw⟩; obtain rfl := hw.symm)
                  | (go_at_call 81; refine (hlo _).mono ?_; rintro e w' ⟨rfl, hw⟩; obtain rfl := hw.symm)
                  | (go_at_call 82; refine (hdi _).mono ?_; rintro e w' ⟨rfl, hw⟩; obtain rfl := hw.symm))
                go_ret
                rw [hf.out]
                exact ⟨rfl, rfl⟩
            | false =>
              cases L with
              | true =>
                have hf : Hid (R = false) := Lib.hid (by rw [← HSD.out]; exact scan_long _ H58.out H16.out)
                as_aux_lemma =>
                  go_wp2_with (first
                    | (go_at_call 80; refine (hup _).mono ?_; rintro e w' ⟨rfl, hw⟩; obtain rfl := hw.symm)
                    | (go_at_call 81; refine (hlo _).mono ?_; rintro e w' ⟨rfl, hw⟩; obtain rfl := hw.symm)
                    | (go_at_call 82; refine (hdi _).mono ?_; rintro e w' ⟨rfl, hw⟩; obtain rfl := hw.symm))
                  go_ret
                  rw [hf.out]
                  exact ⟨rfl, rfl⟩
              | false =>
                cases D with
                | true =>
                  have hf : Hid (R = false) := Lib.hid (by rw [← HSD.out]; exact scan_long _ H58.out H16.out)
                  as_aux_lemma =>
                    go_wp2_with (first
                      | (go_at_call 80; refine (hup _).mono ?_; rintro e w' ⟨rfl, hw⟩; obtain rfl := hw.symm)
                      | (go_at_call 81; refine (hlo _).mono ?_; rintro e w' ⟨rfl, hw⟩; obtain rfl := hw.symm)
                      | (go_at_call 82; refine (hdi _).mono ?_; rintro e w' ⟨rfl, hw⟩; obtain rfl := hw.symm))
                    go_ret
                    rw [hf.out]
                    exact ⟨rfl, rfl⟩
                | false =>
                  by_cases h45 : s[k] = 45
                  · have b45 : ((s[k].toNat : Int) == 45) = true := by rw [h45]; rfl
                    clear h45
                    have hf : Hid (R = false) := Lib.hid (by rw [← HSD.out]; exact scan_long _ H58.out H16.out)
                    as_aux_lemma =>
                      go_wp2_with (first
                        | (go_at_call 80; refine (hup _).mono ?_; rintro e w' ⟨rfl, hw⟩; obtain rfl := hw.symm)
                        | (go_at_call 81; refine (hlo _).mono ?_; rintro e w' ⟨rfl, hw⟩; obtain rfl := hw.symm)
                        | (go_at_call 82; refine (hdi _).mono ?_; rintro e w' ⟨rfl, hw⟩; obtain rfl := hw.symm))
                      go_ret
                      rw [hf.out]
                      exact ⟨rfl, rfl⟩
                  · have b45 : ((s[k].toNat : Int) == 45) = false := byte_ne h45
                    have H45 := Lib.hid h45
                    clear h45
                    have hf : Hid (R = false) := Lib.hid (by rw [← HSD.out]; exact scan_bad _ H58.out (.inr (not_name (of_decide_eq_false HUU.out.symm) (of_decide_eq_false HLL.out.symm) (of_decide_eq_false HDD.out.symm) H45.out)))
                    as_aux_lemma =>
                      go_wp2_with (first
                        | (go_at_call 80; refine (hup _).mono ?_; rintro e w' ⟨rfl, hw⟩; obtain rfl := hw.symm)
                        | (go_at_call 81; refine (hlo _).mono ?_; rintro e w' ⟨rfl, hw⟩; obtain rfl := hw.symm)
                        | (go_at_call 82; refine (hdi _).mono ?_; rintro e w' ⟨rfl, hw⟩; obtain rfl := hw.symm))
                      go_ret
                      rw [hf.out]
                      exact ⟨rfl, rfl⟩
          · have h16' : ¬ (16 : Int) < (z : Int) + 1 := by omega
            have H16 := Lib.hid h16
            clear h16
            cases U with
            | true =>
              have hf : Hid (scanN p (z + 1) (s.data.toList.drop (k + 1)) = scanN 1 0 s.data.toList) := Lib.hid (by rw [← HR.out, ← HSD.out]; exact (scan_ok _ H58.out (fun h => by rcases h with ⟨h, _⟩ | h; exact HZ.out h; exact h (up_name (of_decide_eq_true HUU.out.symm))) H16.out).symm)
              as_aux_lemma =>
                go_wp2_with (first
                  | (go_at_call 80; refine (hup _).mono ?_; rintro e w' ⟨rfl, hw⟩; obtain rfl := hw.symm)
                  | (go_at_call 81; refine (hlo _).mono ?_; rintro e w' ⟨rfl, hw⟩; obtain rfl := hw.symm)
                  | (go_at_call 82; refine (hdi _).mono ?_; rintro e w' ⟨rfl, hw⟩; obtain rfl := hw.symm))
                go_roundw
                case rel => exact ⟨k + 1, p, z + 1, Nat.succ_le_of_lt HN.out.1, by go_num, by go_num, by go_num, by have := HN.out.2.1; omega, by have := H16.out; omega, hf.out, rfl⟩
                case measure => simpa [intOf] using hmu
            | false =>
              cases L with
              | true =>
                have hf : Hid (scanN p (z + 1) (s.data.toList.drop (k + 1)) = scanN 1 0 s.data.toList) := Lib.hid (by rw [← HR.out, ← HSD.out]; exact (scan_ok _ H58.out (fun h => by rcases h with ⟨h, _⟩ | h; exact HZ.out h; exact h ((.inr (.inl (of_decide_eq_true HLL.out.symm)) : nameP _))) H16.out).symm)
                as_aux_lemma =>
                  go_wp2_with (first
                    | (go_at_call 80; refine (hup _).mono ?_; rintro e w' ⟨rfl, hw⟩; obtain rfl := hw.symm)
                    | (go_at_call 81; refine (hlo _).mono ?_; rintro e w' ⟨rfl, hw⟩; obtain rfl := hw.symm)
                    | (go_at_call 82; refine (hdi _).mono ?_; rintro e w' ⟨rfl, hw⟩; obtain rfl := hw.symm))
                  go_roundw
                  case rel => exact ⟨k + 1, p, z + 1, Nat.succ_le_of_lt HN.out.1, by go_num, by go_num, by go_num, by have := HN.out.2.1; omega, by have := H16.out; omega, hf.out, rfl⟩
                  case measure => simpa [intOf] using hmu
              | false =>
                cases D with
                | true =>
                  have hf : Hid (scanN p (z + 1) (s.data.toList.drop (k + 1)) = scanN 1 0 s.data.toList) := Lib.hid (by rw [← HR.out, ← HSD.out]; exact (scan_ok _ H58.out (fun h => by rcases h with ⟨h, _⟩ | h; exact HZ.out h; exact h ((.inr (.inr (.inl (of_decide_eq_true HDD.out.symm))) : nameP _))) H16.out).symm)
                  as_aux_lemma =>
                    go_wp2_with (first
                      | (go_at_call 80; refine (hup _).mono ?_; rintro e w' ⟨rfl, hw⟩; obtain rfl := hw.symm)
                      | (go_at_call 81; refine (hlo _).mono ?_; rintro e w' ⟨rfl, hw⟩; obtain rfl := hw.symm)
                      | (go_at_call 82; refine (hdi _).mono ?_; rintro e w' ⟨rfl, hw⟩; obtain rfl := hw.symm))
                    go_roundw
                    case rel => exact ⟨k + 1, p, z + 1, Nat.succ_le_of_lt HN.out.1, by go_num, by go_num, by go_num, by have := HN.out.2.1; omega, by have := H16.out; omega, hf.out, rfl⟩
                    case measure => simpa [intOf] using hmu
                | false =>
                  by_cases h45 : s[k] = 45
                  · have b45 : ((s[k].toNat : Int) == 45) = true := by rw [h45]; rfl
                    have H45 := Lib.hid h45
                    clear h45
                    have hf : Hid (scanN p (z + 1) (s.data.toList.drop (k + 1)) = scanN 1 0 s.data.toList) := Lib.hid (by rw [← HR.out, ← HSD.out]; exact (scan_ok _ H58.out (fun h => by rcases h with ⟨h, _⟩ | h; exact HZ.out h; exact h ((.inr (.inr (.inr (by rw [H45.out]; rfl))) : nameP _))) H16.out).symm)
                    as_aux_lemma =>
                      go_wp2_with (first
                        | (go_at_call 80; refine (hup _).mono ?_; rintro e w' ⟨rfl, hw⟩; obtain rfl := hw.symm)
                        | (go_at_call 81; refine (hlo _).mono ?_; rintro e w' ⟨rfl, hw⟩; obtain rfl := hw.symm)
                        | (go_at_call 82; refine (hdi _).mono ?_; rintro e w' ⟨rfl, hw⟩; obtain rfl := hw.symm))
                      go_roundw
                      case rel => exact ⟨k + 1, p, z + 1, Nat.succ_le_of_lt HN.out.1, by go_num, by go_num, by go_num, by have := HN.out.2.1; omega, by have := H16.out; omega, hf.out, rfl⟩
                      case measure => simpa [intOf] using hmu
                  · have b45 : ((s[k].toNat : Int) == 45) = false := byte_ne h45
                    have H45 := Lib.hid h45
                    clear h45
                    have hf : Hid (R = false) := Lib.hid (by rw [← HSD.out]; exact scan_bad _ H58.out (.inr (not_name (of_decide_eq_false HUU.out.symm) (of_decide_eq_false HLL.out.symm) (of_decide_eq_false HDD.out.symm) H45.out)))
                    as_aux_lemma =>
                      go_wp2_with (first
                        | (go_at_call 80; refine (hup _).mono ?_; rintro e w' ⟨rfl, hw⟩; obtain rfl := hw.symm)
                        | (go_at_call 81; refine (hlo _).mono ?_; rintro e w' ⟨rfl, hw⟩; obtain rfl := hw.symm)
                        | (go_at_call 82; refine (hdi _).mono ?_; rintro e w' ⟨rfl, hw⟩; obtain rfl := hw.symm))
                      go_ret
                      rw [hf.out]
                      exact ⟨rfl, rfl⟩
    · obtain rfl : k = s.size := by omega
      have hfin : Hid (R = (decide (0 < z) && decide (p ≤ 6))) := Lib.hid (by rw [HR.out, ← hsc, List.drop_of_length_le (by rw [data_len]; omega)]; rfl)
      clear hsc
      by_cases hz : 0 < z
      · by_cases hp6 : p ≤ 6
        · have e1 : (0 : Int) < (z : Int) := by omega
          have e2 : ¬ (6 : Int) < (p : Int) := by omega
          have e3 : (p : Int) ≤ 6 := by omega
          have hr : Hid (R = true) := Lib.hid (by rw [hfin.out, decide_eq_true hz, decide_eq_true hp6]; rfl)
          clear hz hp6
          go_wp2
          go_ret
          rw [hr.out]
          exact ⟨rfl, rfl⟩
        · have e1 : (0 : Int) < (z : Int) := by omega
          have e3 : ¬ (p : Int) ≤ 6 := by omega
          have e4 : (6 : Int) < (p : Int) := by omega
          have hr : Hid (R = false) := Lib.hid (by rw [hfin.out, decide_eq_false hp6, Bool.and_false])
          clear hz hp6
          go_wp2
          go_ret
          rw [hr.out]
          exact ⟨rfl, rfl⟩
      · have e1 : ¬ (0 : Int) < (z : Int) := by omega
        have hr : Hid (R = false) := Lib.hid (by rw [hfin.out, decide_eq_false hz, Bool.false_and])
        clear hz
        go_wp2
        go_ret
        rw [hr.out]
        exact ⟨rfl, rfl⟩

theorem refGood_any (s : ByteArray) (w : World) (hs : s.size ≤ 1048576) :
    Calls Tryz.prog 7 #[.string s] w fun e w' => e = .returned (.bool (goodB s.data.toList)) ∧ w' = w := by
  have h := refName_any s w hs
  go_enter Tryz.func7, Tryz.ntmps7
  go_wp2_with (go_at_call 25; refine h.mono ?_; rintro e w' ⟨rfl, hw⟩; obtain rfl := hw.symm)
  go_ret
  exact ⟨rfl, rfl⟩

/-- While the path is told. -/
structure RPathInv (w : World) (s : ByteArray) (v iv : Value) (wr : World) (j : Nat) (pre : List ByteArray) : Prop where
  le : j ≤ s.size
  i : iv = .int .i64 ((j : Int) - 1)
  row : wr.ownsRow w.heap.size 9 1 v pre.length (pre.map Value.string)
  eq : pre ++ colT s.data.toList j = pathF 103 s
  bel : Below w.heap.size w wr
theorem col_step (s : ByteArray) (k : Nat) (hk : k < s.size) : colT s.data.toList (k + 1) = if s[k] = 58 then s.extract 0 k :: colT s.data.toList k else colT s.data.toList k := by
  have hl : k < s.data.toList.length := by rw [data_len]; exact hk
  rw [colT_succ, List.getElem?_eq_getElem hl, data_get s k hk]
  have e : (⟨(s.data.toList.take k).toArray⟩ : ByteArray) = s.extract 0 k := ba_ext (by rw [extract0_list])
  rw [e]
  by_cases h : s[k] = 58
  · rw [if_pos h, if_pos (by rw [h])]
  · rw [if_neg h, if_neg (fun e => h (Option.some.inj e))]
set_option maxRecDepth 100000 in
set_option maxHeartbeats 2000000 in
theorem refPath_any (s : ByteArray) (w : World) (hs : s.size ≤ 1048576) :
    Calls Tryz.prog 16 #[.string s] w fun e w' => ∃ v, e = .returned v ∧ w'.ownsRow w.heap.size 9 1 v (path7 s).length ((path7 s).map Value.string) ∧ Below w.heap.size w w' := by
  have hg := refGood_any s w hs
  unfold path7
  cases hb : goodB s.data.toList with
  | false =>
    rw [hb] at hg
    clear hb
    go_enter Tryz.func16, Tryz.ntmps16
    go_wp2_with (go_at_call 7; refine hg.mono ?_; rintro e w' ⟨rfl, hw⟩; obtain rfl := hw.symm)
    go_ret
    exact ⟨_, rfl, World.ownsRow_nil _ _ _ _, Below.refl _ _⟩
  | true =>
    obtain ⟨i0, hi, hz0, hz1, hz2⟩ := info_parts info_str
    have hsz := good_size7 hb
    have hpc := path_cols 103 s (by omega) hb
    rw [data_len] at hpc
    have HPC := Lib.hid hpc
    rw [hb] at hg
    clear hb hpc
    simp only [if_true]
    have hn : 0 < s.size ∨ s.size = 0 := by omega
    go_enter Tryz.func16, Tryz.ntmps16
    go_wp2_with (go_at_call 7; refine hg.mono ?_; rintro e w' ⟨rfl, hw⟩; obtain rfl := hw.symm)
    go_loopw [4, 5] (fun v iv wr => ∃ j pre, RPathInv w s v iv wr j pre) (fun _ iv _ => (intOf iv + 1).toNat)
    case atStart => exact ⟨s.size, [s], Nat.le_refl _, by go_num, own_one s _ (Nat.le_refl _) (Below.refl _ _), HPC.out.symm, bel1 _ _⟩
    case round =>
      obtain ⟨j, pre, ⟨hj, rfl, hrow, heq, hbel⟩⟩ := hrel
      have hpl : pre.length ≤ 103 := by
        have h1 := path_len 103 s
        rw [← heq, List.length_append] at h1
        omega
      have HEQ := Lib.hid heq
      have HO := Lib.hid hrow
      clear heq hrow
      cases j with
      | zero =>
        have heq := HEQ.out
        have heq' : pre = pathF 103 s := by rw [← heq]; simp [colT]
        go_wp2
        go_ret
        rw [← heq']
        exact ⟨_, rfl, HO.out, hbel⟩
      | succ k =>
        have hk : k < s.size := by omega
        have hcs := col_step s k hk
        have e1 : ((k + 1 : Nat) : Int) - 1 = (k : Int) := by omega
        rw [e1]
        have HCS := Lib.hid hcs
        obtain ⟨c, hc⟩ : ∃ c, c = s[k] := ⟨_, rfl⟩
        clear hcs
        by_cases h58 : s[k] = 58
        · have b58 : ((s[k].toNat : Int) == 58) = true := by rw [h58]; rfl
          have hx : Hid (colT s.data.toList (k + 1) = s.extract 0 k :: colT s.data.toList k) := Lib.hid (by rw [HCS.out, if_pos h58])
          clear h58 hc
          go_wp2_with (at_builtin; refine wpList_append_own _ rfl _ _ 50 rfl w.heap.size 9 i0 (.string ByteArray.empty) 1 16 Tryz.underlying50 hi hz0 hz1 hz2 rfl (by decide) _ _ _ rfl (HO.out.alloc _) ⟨wr.heap.size, 0, none⟩ 1 1 [.string (s.extract 0 k)] rfl rfl (cell_one_new _ _ _) (by simp [Value.oneCell']) (by unfold maxLen; omega) (by omega) (by have := hbel.size; simp; omega) ?_; intro v' w1 hown' hgrow _; have HO1 := Lib.hid hown'; have hb1 : Below w.heap.size w w1 := (hbel.alloc hbel.size _).grown hgrow (by have := hbel.size; simp; omega) fun k' hk' => (HO.out.lt k' hk').1; clear hown' hgrow)
          refine ⟨⟨k, pre ++ [s.extract 0 k], ⟨by omega, rfl, by simpa using HO1.out, ?_, hb1⟩⟩, ?_⟩
          · rw [← HEQ.out, hx.out, List.append_assoc]; rfl
          · simp [intOf]
        · have b58 : ((s[k].toNat : Int) == 58) = false := byte_ne h58
          have hx : Hid (colT s.data.toList (k + 1) = colT s.data.toList k) := Lib.hid (by rw [HCS.out, if_neg h58])
          clear h58 hc
          go_wp2
          refine ⟨⟨k, pre, ⟨by omega, rfl, HO.out, by rw [← HEQ.out, hx.out], hbel⟩⟩, ?_⟩
          simp [intOf]
end Go.Proofs.YtplocldnklccfaaGreatDoor
namespace Go.Proofs.YtplocldnklccfaaGreatDoor
open Go.RowKit Go.Shelf
set_option linter.unusedVariables false
set_option linter.unusedSimpArgs false

theorem path7_eq (s : ByteArray) : pathG s = path7 s := rfl
theorem own_str {w : World} {B e : Nat} {v : Value} {l : List ByteArray} (h : w.ownsRow B e 1 v l.length (l.map Value.string)) (hn : 0 < l.length) : ∃ g c, v = .slice (some ⟨g, 0, none⟩) l.length c ∧ ∀ j (hj : j < l.length), w.cell? ⟨g, j, none⟩ = some (.string l[j]) := by
  rcases h.2 with ⟨_, h0⟩ | ⟨g, cap, cur, hv, _⟩
  · omega
  · refine ⟨g, cap, hv, fun j hj => ?_⟩
    rw [own_get h (by rw [hv]; rfl) j (by omega)]
    rw [List.getElem?_map, List.getElem?_eq_getElem hj]
    rfl
/-- Texts that can be read. -/
def TxtAt (w : World) (v : Value) (l : List ByteArray) : Prop := ∃ A c, v = .slice A l.length c ∧ ∀ j (hj : j < l.length), ∃ ad, A = some ad ∧ ad.block < w.heap.size ∧ w.cell? (ad.add j) = some (.string l[j])
theorem TxtAt.own {w : World} {B e : Nat} {v : Value} {l : List ByteArray} (h : w.ownsRow B e 1 v l.length (l.map Value.string)) : TxtAt w v l := by
  by_cases hn : 0 < l.length
  · obtain ⟨g, c, hv, hc⟩ := own_str h hn
    refine ⟨_, c, hv, fun j hj => ⟨_, rfl, (h.lt g (by rw [hv]; rfl)).2, ?_⟩⟩
    rw [Addr.add_lit]
    simpa using hc j hj
  · obtain ⟨A, c, hv⟩ := own_form h
    exact ⟨A, c, hv, fun j hj => by omega⟩
theorem TxtAt.keep {w w' : World} {v : Value} {l : List ByteArray} (h : TxtAt w v l) (hb : Below w.heap.size w w') : TxtAt w' v l := by
  obtain ⟨A, c, hv, hx⟩ := h
  have hs := hb.size
  refine ⟨A, c, hv, fun j hj => ?_⟩
  obtain ⟨ad, e1, h1, h2⟩ := hx j hj
  exact ⟨ad, e1, by omega, (hb.cell (p := ad.add j) (by rw [block_add]; exact h1)).trans h2⟩

theorem refParent_any (s : ByteArray) (w : World) (hs : s.size ≤ 1048576) :
    Calls Tryz.prog 11 #[.string s] w fun e w' => e = .returned (.tuple #[.string ((parentF s).getD ⟨#[]⟩), .bool (parentF s).isSome]) ∧ Below w.heap.size w w' := by
  have hp := refPath_any s w hs
  have h2 := path7_second s
  have hl := path7_len s
  obtain ⟨L, hL⟩ : ∃ L, L = path7 s := ⟨_, rfl⟩
  obtain ⟨P, hP⟩ : ∃ P, P = parentF s := ⟨_, rfl⟩
  rw [← hL] at hp h2 hl
  rw [← hP] at h2 ⊢
  clear hL hP
  cases P with
  | none =>
    have h : L.length < 2 := by
      rw [List.getElem?_eq_none_iff] at h2; omega
    have hi : ((L.length : Nat) : Int) < 2 := by omega
    clear h2 h
    go_enter Tryz.func11, Tryz.ntmps11
    go_wp2_with (go_at_call 16; refine hp.mono ?_)
    rintro e w1 ⟨v, rfl, hown, hb⟩
    obtain ⟨A, c, rfl⟩ := own_form hown
    clear hp hown
    go_wp2
    go_ret2
    exact ⟨rfl, hb⟩
  | some u =>
    have H2 := Lib.hid h2
    have hlen : 2 ≤ L.length := (List.getElem?_eq_some_iff.1 h2).1
    have hi : ¬ ((L.length : Nat) : Int) < 2 := by omega
    have hi2 : (1 : Int) < ((L.length : Nat) : Int) := by omega
    have HL2 := Lib.hid hlen
    clear h2 hlen
    go_enter Tryz.func11, Tryz.ntmps11
    go_wp2_with (go_at_call 16; refine hp.mono ?_; rintro e w1 ⟨v, rfl, hown, hb⟩; obtain ⟨g, c, rfl, hc⟩ := own_str hown (Nat.lt_of_lt_of_le (by decide) HL2.out); have h1 := hc 1 HL2.out; rw [(List.getElem?_eq_some_iff.1 H2.out).2] at h1; have HB := Lib.hid hb; clear hp hown hc hb)
    go_ret2
    exact ⟨rfl, HB.out⟩
theorem refRoot_any (s : ByteArray) (w : World) (hs : s.size ≤ 1048576) :
    Calls Tryz.prog 13 #[.string s] w fun e w' => e = .returned (.string (rootG s)) ∧ Below w.heap.size w w' := by
  have hp := refPath_any s w hs
  have h2 := path7_last s
  have hl := path7_len s
  obtain ⟨L, hL⟩ : ∃ L, L = path7 s := ⟨_, rfl⟩
  rw [← hL] at hp h2 hl
  clear hL
  unfold rootG
  cases hg : goodB s.data.toList with
  | false =>
    rw [hg, if_neg (by simp), List.getLast?_eq_none_iff] at h2
    have hi : (((L.length : Nat) : Int) == 0) = true := by rw [h2]; rfl
    have HG := Lib.hid (And.intro hg h2)
    clear hg h2
    go_enter Tryz.func13, Tryz.ntmps13
    go_wp2_with (go_at_call 16; refine hp.mono ?_)
    rintro e w1 ⟨v, rfl, hown, hb⟩
    obtain ⟨A, c, rfl⟩ := own_form hown
    clear hp hown
    go_wp2
    go_ret
    exact ⟨rfl, hb⟩
  | true =>
    rw [hg, if_pos rfl] at h2
    have h0 : L.length ≠ 0 := fun h => by rw [List.eq_nil_of_length_eq_zero h] at h2; cases h2
    have hi : (((L.length : Nat) : Int) == 0) = false := by rw [beq_eq_false_iff_ne]; omega
    rw [List.getLast?_eq_getElem?, List.getElem?_eq_getElem (by omega : L.length - 1 < L.length)] at h2
    obtain ⟨n, hn⟩ : ∃ n, L.length = n + 1 := ⟨L.length - 1, by omega⟩
    have e2 : wrap64 (((L.length : Nat) : Int) - 1) = (n : Int) := by unfold wrap64; omega
    have e2' : IntKind.i64.wrap (((L.length : Nat) : Int) - 1) = (n : Int) := by rw [show ((L.length : Nat) : Int) - 1 = (n : Int) by omega]; exact IntWalk.i64_in _ (by omega)
    have e3 : (n : Int) < ((L.length : Nat) : Int) := by omega
    obtain ⟨rf, hrf⟩ : ∃ rf, rf = rootF s := ⟨_, rfl⟩
    rw [← hrf] at h2 ⊢
    have H2 := Lib.hid (show L[n]? = some rf by rw [← h2, List.getElem?_eq_getElem (by omega : n < L.length)]; congr 2; omega)
    have HN := Lib.hid hn
    simp only [if_true]
    clear h2 hg hrf h0 hn
    go_enter Tryz.func13, Tryz.ntmps13
    go_wp2_with (go_at_call 16; refine hp.mono ?_)
    rintro e w1 ⟨v, rfl, hown, hb⟩
    have hn := HN.out
    obtain ⟨g, c, rfl, hc⟩ := own_str hown (by omega)
    obtain ⟨hl2, hu⟩ := List.getElem?_eq_some_iff.1 H2.out
    have h1 := hc n hl2
    rw [hu] at h1
    clear hp hown hc hn hu
    go_wp2
    go_ret
    exact ⟨rfl, hb⟩
set_option maxRecDepth 100000 in
theorem refUnder_any (a b : ByteArray) (w : World) (hs : a.size ≤ 1048576) :
    Calls Tryz.prog 9 #[.string a, .string b] w fun e w' => e = .returned (.bool (underF a b)) ∧ Below w.heap.size w w' := by
  have hp := refPath_any a w hs
  have h2 := path7_under a b
  have hl := path7_len a
  obtain ⟨L, hL⟩ : ∃ L, L = path7 a := ⟨_, rfl⟩
  rw [← hL] at hp h2 hl
  have H2 := Lib.hid h2
  clear hL h2
  go_enter Tryz.func9, Tryz.ntmps9
  go_wp2_with (go_at_call 16; refine hp.mono ?_)
  rintro e w1 ⟨v, rfl, hown, hb⟩
  have ht := TxtAt.own hown
  obtain ⟨A, c, rfl, hx⟩ := ht
  have HX := Lib.hid hx
  have HB := Lib.hid hb
  clear hp hown hx hb
  go_wp2
  go_loopw [6] (fun i wr => ∃ k : Nat, i = .int .i64 (k : Int) ∧ k ≤ L.length ∧ (∀ j (hj : j < L.length), j < k → L[j] ≠ b) ∧ wr = w1) (fun i _ => L.length - (intOf i).toNat)
  case atStart => exact ⟨0, rfl, Nat.zero_le _, fun j _ h => absurd h (by omega), rfl⟩
  case round =>
    obtain ⟨k, rfl, hk, hno, hsame⟩ := hrel
    obtain rfl := hsame.symm
    have HNO := Lib.hid hno
    clear hno
    by_cases hlt : k < L.length
    · obtain ⟨ad, rfl, _, hc⟩ := HX.out k hlt
      obtain ⟨u, hu⟩ : ∃ u, u = L[k] := ⟨_, rfl⟩
      rw [← hu] at hc
      have HU := Lib.hid hu
      clear hu
      have hmu : L.length - ((k : Int) + 1).toNat < L.length - k := by omega
      by_cases he : u = b
      · have hq : (u.toList == b.toList) = true := by rw [he]; simp
        have hr : Hid (underF a b = true) := Lib.hid (by rw [← H2.out, List.any_eq_true]; exact ⟨u, by rw [HU.out]; exact List.getElem_mem hlt, by simpa using he⟩)
        clear he
        go_wp2
        go_ret
        rw [hr.out]
        exact ⟨rfl, HB.out⟩
      · have hq : (u.toList == b.toList) = false := by
          rw [beq_eq_false_iff_ne]
          intro e
          exact he (ByteArray.ext (by simpa [ByteArray.toList_eq] using e))
        have hn : Hid (∀ j (hj : j < L.length), j < k + 1 → L[j] ≠ b) := Lib.hid (fun j hj h1 => by
          by_cases e : j = k
          · subst e; rw [← HU.out]; exact he
          · exact HNO.out j hj (by omega))
        clear he
        go_wp2
        go_roundw
        case rel => exact ⟨k + 1, by go_num, by omega, hn.out, by first | rfl | trivial⟩
        case measure => simpa [intOf] using hmu
    · have hr : Hid (underF a b = false) := Lib.hid (by
        rw [← H2.out, List.any_eq_false]
        intro x hx
        obtain ⟨j, hj, rfl⟩ := List.getElem_of_mem hx
        simpa using HNO.out j hj (by omega))
      go_wp2
      go_ret
      rw [hr.out]
      exact ⟨rfl, HB.out⟩

set_option maxRecDepth 100000 in
theorem sameTexts_same {w : World} {v v' : Value} (l : List ByteArray) (h : TxtAt w v l) (h' : TxtAt w v' l) (hl : l.length ≤ 1048576) :
    Calls Tryz.prog 15 #[v, v'] w fun en w' => en = .returned (.bool true) ∧ ∃ m, w' = w.drewN m := by
  obtain ⟨A, c, rfl, hx⟩ := h
  obtain ⟨A', c', rfl, hx'⟩ := h'
  have HX := Lib.hid hx
  have HX' := Lib.hid hx'
  clear hx hx'
  go_enter Tryz.func15, Tryz.ntmps15
  go_wp2
  go_loopw [5] (fun i wr => ∃ k : Nat, i = .int .i64 (k : Int) ∧ k ≤ l.length ∧ ∃ m, wr = w.drewN m) (fun i _ => l.length - (intOf i).toNat)
  case atStart => exact ⟨0, rfl, Nat.zero_le _, 0, rfl⟩
  case round =>
    obtain ⟨k, rfl, hk, m, rfl⟩ := hrel
    by_cases hlt : k < l.length
    · obtain ⟨ad, rfl, _, hc⟩ := HX.out k hlt
      obtain ⟨ad', rfl, _, hc'⟩ := HX'.out k hlt
      obtain ⟨r, hr⟩ : ∃ r, r = l[k] := ⟨_, rfl⟩
      rw [← hr] at hc hc'
      have hmu : l.length - ((k : Int) + 1).toNat < l.length - k := by omega
      clear hr
      go_wp2
      go_quiet (fail)
      go_wp2
      go_roundw
      case rel => exact ⟨k + 1, by go_num, by omega, m + nq, by first | rfl | rw [World.drewN_drewN]⟩
      case measure => simpa [intOf] using hmu
    · go_wp2
      go_ret
      exact ⟨rfl, m, rfl⟩
end Go.Proofs.YtplocldnklccfaaGreatDoor
namespace Go.Proofs.YtplocldnklccfaaGreatDoor
open Go.RowKit Go.Shelf
set_option linter.unusedVariables false
set_option linter.unusedSimpArgs false

/-- The reference's chart in memory. -/
structure RefP (w : World) (R : Nat → Prop) (rb : Nat) (A : Option Addr) (c : Nat) (L : List Acct) : Prop where
  blk : w.heap[rb]? = some (.cells #[.slice A L.length c] 150 (0, 0))
  own : w.ownsRow 0 159 4 (.slice A L.length c) L.length (cellsA L)
  rR : R rb
  rO : ∀ q, (Value.slice A L.length c).ownBlock = some q → R q
  ne : ∀ q, (Value.slice A L.length c).ownBlock = some q → q ≠ rb
  le : L.length ≤ 1048576
def RefAt (w : World) (R : Nat → Prop) (rb : Nat) (L : List Acct) : Prop := ∃ A c, RefP w R rb A c L
theorem RefP.keep {w w' : World} {R : Nat → Prop} {rb c : Nat} {A : Option Addr} {L : List Acct} (h : RefP w R rb A c L) (hk : ∀ k, R k → k < w.heap.size → w'.heap[k]? = w.heap[k]?) : RefP w' R rb A c L where
  blk := (hk _ h.rR (heap_lt h.blk)).trans h.blk
  own := ownsRow_keep h.own fun q hq => hk q (h.rO q hq) (h.own.lt q hq).2
  rR := h.rR
  rO := h.rO
  ne := h.ne
  le := h.le
theorem RefP.below {w w' : World} {R : Nat → Prop} {rb c : Nat} {A : Option Addr} {L : List Acct} (h : RefP w R rb A c L) (hb : Below w.heap.size w w') : RefP w' R rb A c L := h.keep fun k _ hk => hb.block k hk
theorem RefAt.keep {w w' : World} {R : Nat → Prop} {rb : Nat} {L : List Acct} (h : RefAt w R rb L) (hk : ∀ k, R k → k < w.heap.size → w'.heap[k]? = w.heap[k]?) : RefAt w' R rb L := by
  obtain ⟨A, c, h⟩ := h
  exact ⟨A, c, h.keep hk⟩
theorem RefAt.below {w w' : World} {R : Nat → Prop} {rb : Nat} {L : List Acct} (h : RefAt w R rb L) (hb : Below w.heap.size w w') : RefAt w' R rb L := h.keep fun k _ hk => hb.block k hk
theorem RefAt.ch {w w' : World} {R G : Nat → Prop} {rb : Nat} {L : List Acct} (h : RefAt w R rb L) (hc : Ch G w w') (hd : ∀ k, R k → ¬ G k) : RefAt w' R rb L := h.keep fun k hr hl => hc.block k hl (hd k hr)
/-- An account of the list, read. -/
structure ReadA (w : World) (A : Option Addr) (k : Nat) (a : Acct) : Prop where
  ex : ∃ g, A = some ⟨g, 0, none⟩ ∧ g < w.heap.size ∧ w.cell? ⟨g, k * 4, none⟩ = some (.string a.name) ∧ w.cell? ⟨g, k * 4 + 1, none⟩ = some (.int .i64 a.typ) ∧ w.cell? ⟨g, k * 4 + 2, none⟩ = some (.int .i64 a.opened) ∧ w.cell? ⟨g, k * 4 + 3, none⟩ = some (.bool a.closed)
theorem RefP.read {w : World} {R : Nat → Prop} {rb c : Nat} {A : Option Addr} {L : List Acct} (h : RefP w R rb A c L) (k : Nat) (hk : k < L.length) : ReadA w A k L[k] := by
  rcases row_of_own h.own with ⟨h0, _⟩ | ⟨g, c', e, _, hr, _⟩
  · rw [h0] at hk; simp at hk
  · injection e with e1 _ _
    exact ⟨g, e1, hr.lt, hr.c0 k hk, hr.c1 k hk, hr.c2 k hk, hr.c3 k hk⟩
theorem RefP.c0 {w : World} {R : Nat → Prop} {rb c : Nat} {A : Option Addr} {L : List Acct} (h : RefP w R rb A c L) : w.cell? ⟨rb, 0, none⟩ = some (.slice A L.length c) := by rw [cell_of_blk h.blk]; rfl

theorem name_ne {a b : ByteArray} (h : a ≠ b) : (a.toList == b.toList) = false := by
  rw [beq_eq_false_iff_ne]
  intro e
  exact h (ByteArray.ext (by simpa [ByteArray.toList_eq] using e))

set_option maxRecDepth 100000 in
theorem at_any {w : World} {R : Nat → Prop} {rb c : Nat} {A : Option Addr} {L : List Acct} (h : RefP w R rb A c L) (n : ByteArray) :
    Calls Tryz.prog 214 #[.pointer (some ⟨rb, 0, none⟩), .string n] w fun e w' => e = .returned (.int .i64 (atF L n)) ∧ w' = w := by
  have hc0 := h.c0
  have hlt := heap_lt h.blk
  have hle := h.le
  have HR := Lib.hid h.read
  clear h
  go_enter Tryz.func214, Tryz.ntmps214
  go_wp2
  go_loopw [5] (fun i wr => ∃ k : Nat, i = .int .i64 (k : Int) ∧ k ≤ L.length ∧ (∀ j (hj : j < L.length), j < k → L[j].name ≠ n) ∧ wr = w) (fun i _ => L.length - (intOf i).toNat)
  case atStart => exact ⟨0, rfl, Nat.zero_le _, fun j _ h => absurd h (by omega), rfl⟩
  case round =>
    obtain ⟨k, rfl, hk, hno, hsame⟩ := hrel
    obtain rfl := hsame.symm
    have HNO := Lib.hid hno
    clear hno
    by_cases hlt2 : k < L.length
    · obtain ⟨g, rfl, hg, r0, _⟩ := (HR.out k hlt2).ex
      obtain ⟨a, ha⟩ : ∃ a, a = L[k] := ⟨_, rfl⟩
      rw [← ha] at r0
      have HA := Lib.hid ha
      clear ha
      have hmu : L.length - ((k : Int) + 1).toNat < L.length - k := by omega
      by_cases he : a.name = n
      · have hq : (a.name.toList == n.toList) = true := by rw [he]; simp
        have hr : Hid (atF L n = (k : Int)) := Lib.hid (at_some hlt2 (by rw [← HA.out]; exact he) HNO.out)
        clear he
        go_wp2
        go_ret
        rw [hr.out]
        exact ⟨rfl, rfl⟩
      · have hq := name_ne he
        have hn : Hid (∀ j (hj : j < L.length), j < k + 1 → L[j].name ≠ n) := Lib.hid (fun j hj h1 => by
          by_cases e : j = k
          · subst e; rw [← HA.out]; exact he
          · exact HNO.out j hj (by omega))
        clear he
        go_wp2
        go_roundw
        case rel => exact ⟨k + 1, by go_num, by omega, hn.out, by first | rfl | trivial⟩
        case measure => simpa [intOf] using hmu
    · have hr : Hid (atF L n = -1) := Lib.hid (at_none fun j hj => HNO.out j hj (by omega))
      go_wp2
      go_ret
      rw [hr.out]
      exact ⟨rfl, rfl⟩

/-- The chart's own answers are the reference's. -/
theorem refMay_any {w : World} {R : Nat → Prop} {rb : Nat} {L : List Acct} (h : RefAt w R rb L) (n : ByteArray) (day : Int) :
    Calls Tryz.prog 155 #[.pointer (some ⟨rb, 0, none⟩), .string n, .int .i64 day] w fun e w' => e = .returned (.int .i64 (mayE L n day)) ∧ w' = w := by
  obtain ⟨A, c, h⟩ := h
  have hat := at_any h n
  have hc0 := h.c0
  have hlt := heap_lt h.blk
  have hle := h.le
  rcases at_cases L n with ⟨e1, e2, _⟩ | ⟨k, hk, e1, e2, e3, _⟩
  · rw [e1] at hat
    have hE : Hid (mayE L n day = 61) := Lib.hid (by unfold mayE; rw [e2])
    clear e1 e2 h
    go_enter Tryz.func155, Tryz.ntmps155
    go_wp2_with (go_at_call 214; refine hat.mono ?_; rintro e w1 ⟨rfl, e1⟩; subst e1)
    go_ret
    rw [hE.out]
    exact ⟨rfl, rfl⟩
  · rw [e1] at hat
    obtain ⟨g, rfl, hg, r0, r1, r2, r3⟩ := (h.read k hk).ex
    have hE : Hid (mayE L n day = if L[k].closed then 63 else if day < L[k].opened then 66 else 0) := Lib.hid (by unfold mayE; rw [e2])
    obtain ⟨a, ha⟩ : ∃ a, a = L[k] := ⟨_, rfl⟩
    rw [← ha] at r0 r1 r2 r3 hE
    clear ha e1 e2 e3 h
    cases hcl : a.closed with
    | true =>
      rw [hcl] at r3 hE
      go_enter Tryz.func155, Tryz.ntmps155
      go_wp2_with (go_at_call 214; refine hat.mono ?_; rintro e w1 ⟨rfl, e1⟩; subst e1)
      go_ret
      rw [hE.out]
      exact ⟨rfl, rfl⟩
    | false =>
      rw [hcl] at r3 hE
      by_cases hd : day < a.opened
      · go_enter Tryz.func155, Tryz.ntmps155
        go_wp2_with (go_at_call 214; refine hat.mono ?_; rintro e w1 ⟨rfl, e1⟩; subst e1)
        go_ret
        rw [hE.out]
        exact ⟨by simp [hd], rfl⟩
      · go_enter Tryz.func155, Tryz.ntmps155
        go_wp2_with (go_at_call 214; refine hat.mono ?_; rintro e w1 ⟨rfl, e1⟩; subst e1)
        go_ret
        rw [hE.out]
        exact ⟨by simp [hd], rfl⟩

set_option maxRecDepth 100000 in
theorem refFind_any {w : World} {R : Nat → Prop} {rb : Nat} {L : List Acct} (h : RefAt w R rb L) (n : ByteArray) :
    Calls Tryz.prog 157 #[.pointer (some ⟨rb, 0, none⟩), .string n] w fun e w' => e = .returned (.tuple #[accV ((findA L n).getD noA), .bool (findA L n).isSome]) ∧ Below w.heap.size w w' := by
  obtain ⟨A, c, h⟩ := h
  have hle := h.le
  have hlt := heap_lt h.blk
  have hat := fun W (hb : Below w.heap.size w W) => at_any (h.below hb) n
  have hc := fun W (hb : Below w.heap.size w W) => (h.below hb).c0
  have HAT := Lib.hid hat
  rcases at_cases L n with ⟨e1, e2, _⟩ | ⟨k, hk, e1, e2, e3, _⟩
  · rw [e2]
    have E1 := Lib.hid e1
    have hB := bel1 w (.cells #[.string ⟨#[]⟩, .int .i64 0, .int .i64 0, .bool false] 159)
    clear e1 e2 h hat hc
    go_enter Tryz.func157, Tryz.ntmps157
    go_wp2_with (go_at_call 214; have hh := HAT.out _ hB; rw [E1.out] at hh; refine hh.mono ?_; rintro e w1 ⟨rfl, e1⟩; subst e1; clear hh)
    refine bodyPost_ret (v := .tuple #[accV noA, .bool false]) (by simp [results, Tryz.results157, go_sem, accV, noA]) rfl ⟨rfl, ?_⟩
    first | exact (Below.refl _ _).alloc (Nat.le_refl _) _ | exact (((((Below.refl _ _).alloc (Nat.le_refl _) _).setCell (Nat.le_refl _) _).setCell (Nat.le_refl _) _).setCell (Nat.le_refl _) _).setCell (Nat.le_refl _) _
  · rw [e2]
    have hrd := fun W (hb : Below w.heap.size w W) => ((h.below hb).read k hk).ex
    obtain ⟨g, rfl, _⟩ := (h.read k hk).ex
    obtain ⟨a, ha⟩ : ∃ a, a = L[k] := ⟨_, rfl⟩
    rw [← ha] at hrd ⊢
    have E1 := Lib.hid e1
    have HRD := Lib.hid hrd
    have HC := Lib.hid hc
    have hB := bel1 w (.cells #[.string ⟨#[]⟩, .int .i64 0, .int .i64 0, .bool false] 159)
    obtain ⟨g', e4, q0, q1, q2, q3, q4⟩ := HRD.out _ hB
    obtain rfl : g = g' := by injection e4 with e4; injection e4
    have hc0 := HC.out _ hB
    clear e1 e2 e3 h hat hc hrd ha
    go_enter Tryz.func157, Tryz.ntmps157
    go_wp2_with (go_at_call 214; have hh := HAT.out _ hB; rw [E1.out] at hh; refine hh.mono ?_; rintro e w1 ⟨rfl, e1⟩; subst e1; clear hh)
    refine bodyPost_ret (v := .tuple #[accV a, .bool true]) (by simp [results, Tryz.results157, go_sem, accV]) rfl ⟨rfl, ?_⟩
    first | exact (Below.refl _ _).alloc (Nat.le_refl _) _ | exact (((((Below.refl _ _).alloc (Nat.le_refl _) _).setCell (Nat.le_refl _) _).setCell (Nat.le_refl _) _).setCell (Nat.le_refl _) _).setCell (Nat.le_refl _) _

structure RKidsInv (w0 : World) (L : List Acct) (n : ByteArray) (v i : Value) (wr : World) (k : Nat) : Prop where
  le : k ≤ L.length
  at_ : i = .int .i64 (k : Int)
  own : wr.ownsRow w0.heap.size 9 1 v (refKids (L.take k) n).length (namesV (refKids (L.take k) n))
  bel : Below w0.heap.size w0 wr
theorem refKids_len (L : List Acct) (n : ByteArray) (k : Nat) : (refKids (L.take k) n).length ≤ L.length := by
  unfold refKids
  have := List.length_filter_le (fun a : Acct => decide ((parentF a.name).getD ⟨#[]⟩ = n)) (L.take k)
  simp at this ⊢
  omega
theorem refKids_yes {L : List Acct} {n : ByteArray} {k : Nat} (hk : k < L.length) (h : (parentF L[k].name).getD ⟨#[]⟩ = n) : refKids (L.take (k + 1)) n = refKids (L.take k) n ++ [L[k]] := by
  unfold refKids
  rw [List.take_succ_eq_append_getElem hk, List.filter_append]
  simp [h]
theorem refKids_no {L : List Acct} {n : ByteArray} {k : Nat} (hk : k < L.length) (h : ¬ (parentF L[k].name).getD ⟨#[]⟩ = n) : refKids (L.take (k + 1)) n = refKids (L.take k) n := by
  unfold refKids
  rw [List.take_succ_eq_append_getElem hk, List.filter_append]
  simp [h]

set_option maxRecDepth 100000 in
set_option maxHeartbeats 1000000 in
theorem refKids_any {w : World} {R : Nat → Prop} {rb : Nat} {L : List Acct} (h : RefAt w R rb L) (hs : ∀ a ∈ L, a.name.size ≤ 1048576) (n : ByteArray) :
    Calls Tryz.prog 160 #[.pointer (some ⟨rb, 0, none⟩), .string n] w fun e w' => ∃ v, e = .returned v ∧ w'.ownsRow w.heap.size 9 1 v (refKids L n).length (namesV (refKids L n)) ∧ Below w.heap.size w w' := by
  obtain ⟨i0, hi, hz0, hz1, hz2⟩ := info_parts info_str
  obtain ⟨A, c, h⟩ := h
  have hle := h.le
  have hlt := heap_lt h.blk
  have H := Lib.hid h
  have HS := Lib.hid hs
  clear h hs
  go_enter Tryz.func160, Tryz.ntmps160
  go_wp2
  go_loopw [5, 6] (fun v i wr => ∃ k, RKidsInv w L n v i wr k) (fun _ i _ => L.length - (intOf i).toNat)
  case atStart => exact ⟨0, Nat.zero_le _, rfl, by rw [List.take_zero]; exact World.ownsRow_nil _ _ _ _, Below.refl _ _⟩
  case round =>
    obtain ⟨k, hk, rfl, hown, hbel⟩ := hrel
    have hc0 := (H.out.below hbel).c0
    have hsz := hbel.size
    by_cases hlt2 : k < L.length
    · obtain ⟨g, rfl, hg, r0, _⟩ := ((H.out.below hbel).read k hlt2).ex
      obtain ⟨a, ha⟩ : ∃ a, a = L[k] := ⟨_, rfl⟩
      rw [← ha] at r0
      have hpr := fun W => refParent_any a.name W (HS.out a (ha ▸ List.getElem_mem hlt2))
      have hmu : L.length - ((k : Int) + 1).toNat < L.length - k := by omega
      have hkl := refKids_len L n k
      have HO := Lib.hid hown
      have HAl := Lib.hid ha
      obtain ⟨u, hu⟩ : ∃ u, u = (parentF a.name).getD ⟨#[]⟩ := ⟨_, rfl⟩
      simp only [← hu] at hpr
      have HU := Lib.hid hu
      have HP := Lib.hid hpr
      clear ha hown hu hpr
      by_cases he : u = n
      · have hq : (u.toList == n.toList) = true := by rw [he]; simp
        have hyes : Hid (refKids (L.take (k + 1)) n = refKids (L.take k) n ++ [a]) := Lib.hid (by rw [HAl.out]; exact refKids_yes hlt2 (by rw [← HAl.out, ← HU.out]; exact he))
        clear he
        go_wp2_with (first
          | (go_at_call 11; refine (HP.out _).mono ?_; rintro e w1 ⟨rfl, hb1⟩; have hB1 := hbel.trans (hb1.mono hsz); have s1 := hb1.size; have q0 := (hb1.cell (p := ⟨g, k * 4, none⟩) hg).trans r0; have qc := (H.out.below hB1).c0; have HB1 := Lib.hid (And.intro hb1 hB1); have HOA := Lib.hid (ownsRow_keep (w' := w1) HO.out fun q hq => hb1.block q (HO.out.lt q hq).2); clear hb1 hB1)
          | (at_builtin; refine wpList_append_own _ rfl _ _ 50 rfl w.heap.size 9 i0 (.string ByteArray.empty) 1 16 Tryz.underlying50 hi hz0 hz1 hz2 rfl (by decide) _ _ _ rfl (HOA.out.alloc _) ⟨w1.heap.size, 0, none⟩ 1 1 [.string a.name] rfl rfl ?c1 ?c2 ?c3 ?c4 ?c5 ?_))
        case c1 => exact cell_one_new _ _ _
        case c2 => simp [Value.oneCell']
        case c3 => unfold maxLen; omega
        case c4 => omega
        case c5 => have := HB1.out.2.size; simp; omega
        intro v' w2 hown' hgrow _
        have hb2 : Below w.heap.size w w2 := (HB1.out.2.alloc HB1.out.2.size _).grown hgrow (by have := HB1.out.2.size; simp; omega) fun k' hk' => (HOA.out.lt k' hk').1
        have HO1 := Lib.hid hown'
        clear hown' hgrow
        go_wp2
        go_roundw
        case rel => exact ⟨k + 1, by omega, by go_num, by
          have := HO1.out
          rw [hyes.out, List.length_append, show namesV (refKids (L.take k) n ++ [a]) = namesV (refKids (L.take k) n) ++ [.string a.name] by simp [namesV]]
          exact this, hb2⟩
        case measure => simpa [intOf] using hmu
      · have hq := name_ne he
        have hyes : Hid (refKids (L.take (k + 1)) n = refKids (L.take k) n) := Lib.hid (refKids_no hlt2 (by rw [← HAl.out, ← HU.out]; exact he))
        clear he
        go_wp2_with (go_at_call 11; refine (HP.out _).mono ?_; rintro e w1 ⟨rfl, hb1⟩; have hB1 := hbel.trans (hb1.mono hsz); have HB1 := Lib.hid (And.intro hb1 hB1); clear hb1 hB1)
        go_roundw
        case rel => exact ⟨k + 1, by omega, by go_num, by
          rw [hyes.out]
          exact ownsRow_keep HO.out fun q hq => HB1.out.1.block q (HO.out.lt q hq).2, HB1.out.2⟩
        case measure => simpa [intOf] using hmu
    · obtain rfl : k = L.length := by omega
      rw [List.take_length] at hown
      obtain ⟨A', c', rfl⟩ := own_form hown
      go_wp2
      go_ret
      exact ⟨_, rfl, hown, hbel⟩

set_option maxRecDepth 100000 in
theorem refAccounts_any {w : World} {R : Nat → Prop} {rb : Nat} {L : List Acct} (h : RefAt w R rb L) :
    Calls Tryz.prog 162 #[.pointer (some ⟨rb, 0, none⟩)] w fun e w' => ∃ v, e = .returned v ∧ w'.ownsRow w.heap.size 159 4 v L.length (cellsA L) ∧ Below w.heap.size w w' := by
  obtain ⟨i0, hi, hz0, hz1, hz2⟩ := info_parts info_acc
  obtain ⟨A, c, h⟩ := h
  have hle := h.le
  have hlt := heap_lt h.blk
  have hc0 := h.c0
  have hrow : RowAt w R 4 (.slice A L.length c) (L.map encA) := by
    have h1 : w.ownsRow 0 159 4 (.slice A L.length c) (L.map encA).length (L.map encA).flatten := by
      rw [List.length_map, ← List.flatMap_def]; exact h.own
    exact RowAt.of_own h1 (fun x hx => by obtain ⟨a, _, rfl⟩ := List.mem_map.1 hx; rfl) h.rO
  have hnil := NilOk.own h.own
  have HR := Lib.hid hrow
  clear h hrow
  go_enter Tryz.func162, Tryz.ntmps162
  go_wp2_with (at_builtin; refine wpList_append_row rfl _ _ 55 rfl w.heap.size 159 i0 (.agg #[.string ByteArray.empty, .int .i64 0, .int .i64 0, .bool false]) 4 40 Tryz.underlying55 hi hz0 hz1 hz2 rfl (by decide) (.slice none 0 0) 0 [] rfl (World.ownsRow_nil _ _ _ _) (.slice A L.length c) (L.map encA) rfl HR.out hnil ?c1 ?c2 ?c3 ?c4 ?c5 ?_)
  case c1 => intro x hx; obtain ⟨a, _, rfl⟩ := List.mem_map.1 hx; rfl
  case c2 => intro x hx u hu; obtain ⟨a, _, rfl⟩ := List.mem_map.1 hx; simp [encA] at hu; rcases hu with rfl | rfl | rfl | rfl <;> rfl
  case c3 => simp; unfold maxLen; omega
  case c4 => simp; omega
  case c5 => exact Nat.le_refl _
  intro v' w1 hown' hgrow _
  have hown' : w1.ownsRow w.heap.size 159 4 v' L.length (cellsA L) := by
    have h7 := hown'
    simpa [cellsA, List.flatMap_def] using h7
  obtain ⟨A', c', rfl⟩ := own_form hown'
  have hb1 : Below w.heap.size w w1 := (Below.refl _ _).grown hgrow (Nat.le_refl _) fun k' hk' => by cases hk'
  have HO := Lib.hid (And.intro hown' hb1)
  clear hown' hgrow hb1
  go_wp2
  go_ret
  exact ⟨_, rfl, HO.out.1, HO.out.2⟩
end Go.Proofs.YtplocldnklccfaaGreatDoor
namespace Go.Proofs.YtplocldnklccfaaGreatDoor
open Go.RowKit Go.Shelf
set_option linter.unusedVariables false
set_option linter.unusedSimpArgs false

/-- What a row of accounts gives to read. -/
def ReadsE (w : World) (v : Value) (L : List Acct) : Prop := ∃ A c, v = .slice A L.length c ∧ ∀ j (hj : j < L.length), ReadA w A j L[j]
theorem AccRow.readsE {B : Nat} {w : World} {L : List Acct} {v : Value} (h : AccRow B w L v) : ReadsE w v L := by
  cases h with
  | nil h => subst h; exact ⟨none, 0, rfl, fun j hj => by simp at hj⟩
  | row b c hb h => exact ⟨_, c, rfl, fun j hj => ⟨b, rfl, h.lt, h.c0 j hj, h.c1 j hj, h.c2 j hj, h.c3 j hj⟩⟩
theorem readsE_own {w : World} {B : Nat} {L : List Acct} {v : Value} {t : TypeId} (h : w.ownsRow B t 4 v L.length (cellsA L)) : ReadsE w v L := by
  rcases row_of_own h with ⟨rfl, rfl⟩ | ⟨g, c, rfl, hb, hr, _⟩
  · exact ⟨none, 0, rfl, fun j hj => by simp at hj⟩
  · exact ⟨_, c, rfl, fun j hj => ⟨g, rfl, hr.lt, hr.c0 j hj, hr.c1 j hj, hr.c2 j hj, hr.c3 j hj⟩⟩
theorem ReadA.below {w w' : World} {A : Option Addr} {k : Nat} {a : Acct} (h : ReadA w A k a) (hb : Below w.heap.size w w') : ReadA w' A k a := by
  obtain ⟨g, e, hl, h0, h1, h2, h3⟩ := h
  exact ⟨g, e, Nat.lt_of_lt_of_le hl hb.size, (hb.cell (p := ⟨g, k * 4, none⟩) hl).trans h0, (hb.cell (p := ⟨g, k * 4 + 1, none⟩) hl).trans h1, (hb.cell (p := ⟨g, k * 4 + 2, none⟩) hl).trans h2, (hb.cell (p := ⟨g, k * 4 + 3, none⟩) hl).trans h3⟩
theorem ReadsE.below {w w' : World} {v : Value} {L : List Acct} (h : ReadsE w v L) (hb : Below w.heap.size w w') : ReadsE w' v L := by
  obtain ⟨A, c, e, hx⟩ := h
  exact ⟨A, c, e, fun j hj => (hx j hj).below hb⟩
set_option maxRecDepth 100000 in
set_option maxHeartbeats 2000000 in
theorem sameAccounts_same {w : World} {v u : Value} (L : List Acct) (h1 : ReadsE w v L) (h2 : ReadsE w u L) (hl : L.length ≤ 1048576) :
    Calls Tryz.prog 161 #[v, u] w fun e w' => e = .returned (.bool true) ∧ ∃ m, w' = w.drewN m := by
  obtain ⟨A, c, rfl, hx⟩ := h1
  obtain ⟨A', c', rfl, hx'⟩ := h2
  have HX := Lib.hid hx
  have HX' := Lib.hid hx'
  clear hx hx'
  go_enter Tryz.func161, Tryz.ntmps161
  go_wp2
  go_loopw [5] (fun i wr => ∃ k : Nat, i = .int .i64 (k : Int) ∧ k ≤ L.length ∧ ∃ m, wr = w.drewN m) (fun i _ => L.length - (intOf i).toNat)
  case atStart => exact ⟨0, rfl, Nat.zero_le _, 0, rfl⟩
  case round =>
    obtain ⟨k, rfl, hk, m, rfl⟩ := hrel
    by_cases hlt : k < L.length
    · obtain ⟨g, rfl, hg, p0, p1, p2, p3⟩ := (HX.out k hlt).ex
      obtain ⟨g', rfl, hg', r0, r1, r2, r3⟩ := (HX'.out k hlt).ex
      obtain ⟨x, hx⟩ : ∃ x, x = L[k] := ⟨_, rfl⟩
      rw [← hx] at p0 p1 p2 p3 r0 r1 r2 r3
      have hmu : L.length - ((k : Int) + 1).toNat < L.length - k := by omega
      clear hx
      go_wp2
      go_quiet (fail)
      go_wp2
      go_roundw
      case rel => exact ⟨k + 1, by go_num, by omega, m + nq, by first | rfl | rw [World.drewN_drewN]⟩
      case measure => simpa [intOf] using hmu
    · go_wp2
      go_ret
      exact ⟨rfl, m, rfl⟩
/-- The names of a list of accounts. -/
def namesL (l : List Acct) : List ByteArray := l.map (·.name)
theorem namesL_V (l : List Acct) : (namesL l).map Value.string = namesV l := by simp [namesL, namesV]
theorem names_own {w : World} {B e : Nat} {v : Value} {l : List Acct} (h : w.ownsRow B e 1 v l.length (namesV l)) : ∃ A c, v = .slice A (namesL l).length c ∧ w.ownsRow B e 1 (.slice A (namesL l).length c) (namesL l).length ((namesL l).map Value.string) := by
  obtain ⟨A, c, rfl⟩ := own_form h
  have e1 : (namesL l).length = l.length := by simp [namesL]
  rw [e1, namesL_V]
  exact ⟨A, c, rfl, h⟩
end Go.Proofs.YtplocldnklccfaaGreatDoor
namespace Go.Proofs.YtplocldnklccfaaGreatDoor
open Go.RowKit Go.Shelf
set_option linter.unusedVariables false
set_option linter.unusedSimpArgs false

theorem refIs_any (n : Int) (w : World) : Calls Tryz.prog 213 #[.int .i64 n] w fun e w' => e = .returned (.bool (decide (1 ≤ n ∧ n ≤ 3652059))) ∧ w' = w := by
  by_cases h1 : 1 ≤ n
  · by_cases h2 : n ≤ 3652059
    · go_enter Tryz.func213, Tryz.ntmps213
      go_wp2
      go_ret
      exact ⟨by simp [h1, h2], rfl⟩
    · go_enter Tryz.func213, Tryz.ntmps213
      go_wp2
      go_ret
      exact ⟨by simp [h1, h2], rfl⟩
  · go_enter Tryz.func213, Tryz.ntmps213
    go_wp2
    go_ret
    exact ⟨by simp; omega, rfl⟩

/-- Does an account of a list keep the rules? -/
def fitsB (L : List Acct) (a : Acct) : Bool := goodB a.name.data.toList && decide (1 ≤ a.opened ∧ a.opened ≤ 3652059) && (decide (1 ≤ a.typ) && decide (a.typ ≤ 5)) && match parentF a.name with
  | none => true
  | some u => match findA L u with
    | none => false
    | some p => decide (p.typ = a.typ) && decide (p.opened ≤ a.opened) && (!p.closed || a.closed)

abbrev accO (a : Acct) : Obj := .cells #[.string a.name, .int .i64 a.typ, .int .i64 a.opened, .bool a.closed] 159
theorem acc_box {w w2 : World} {a : Acct} (hb : Below (w.alloc (accO a)).heap.size (w.alloc (accO a)) w2) : w2.cell? ⟨w.heap.size, 0, none⟩ = some (.string a.name) ∧ w2.cell? ⟨w.heap.size, 1, none⟩ = some (.int .i64 a.typ) ∧
    w2.cell? ⟨w.heap.size, 2, none⟩ = some (.int .i64 a.opened) ∧ w2.cell? ⟨w.heap.size, 3, none⟩ = some (.bool a.closed) ∧ Below w.heap.size w w2 := by
  have h : w2.heap[w.heap.size]? = some (.cells #[.string a.name, .int .i64 a.typ, .int .i64 a.opened, .bool a.closed] 159 (0, 0)) := (hb.block _ (by simp)).trans (World.alloc_heap_new w _)
  exact ⟨by rw [cell_of_blk h]; rfl, by rw [cell_of_blk h]; rfl, by rw [cell_of_blk h]; rfl, by rw [cell_of_blk h]; rfl, (bel1 w _).trans (hb.mono (by simp))⟩

set_option maxRecDepth 100000 in
set_option maxHeartbeats 2000000 in
theorem fits_any {w : World} {R : Nat → Prop} {rb c : Nat} {A : Option Addr} {L : List Acct} (h : RefP w R rb A c L) (a : Acct) (hs : a.name.size ≤ 1048576) :
    Calls Tryz.prog 211 #[.pointer (some ⟨rb, 0, none⟩), accV a] w fun e w' => e = .returned (.bool (fitsB L a)) ∧ Below w.heap.size w w' := by
  have hG := fun W => refGood_any a.name W hs
  have hI := fun W => refIs_any a.opened W
  have hP := fun W => refParent_any a.name W hs
  have H := Lib.hid h
  have hlt := heap_lt h.blk
  have hle := h.le
  have HB : Hid (Below w.heap.size w (w.alloc (accO a))) := Lib.hid (bel1 w _)
  clear h
  unfold accV
  cases hg : goodB a.name.data.toList with
  | false =>
    have hr : Hid (fitsB L a = false) := Lib.hid (by unfold fitsB; rw [hg]; rfl)
    rw [hg] at hG
    go_enter Tryz.func211, Tryz.ntmps211
    go_wp2_with (first | (go_at_call 7; with_reducible refine (hG _).mono ?_; rintro e w1 ⟨rfl, e1⟩; subst e1) | (go_at_call 213; with_reducible refine (hI _).mono ?_; rintro e w1 ⟨rfl, e1⟩; subst e1))
    go_ret
    rw [hr.out]
    exact ⟨rfl, HB.out⟩
  | true =>
  rw [hg] at hG
  by_cases hd : 1 ≤ a.opened ∧ a.opened ≤ 3652059
  case neg =>
    have hr : Hid (fitsB L a = false) := Lib.hid (by unfold fitsB; rw [decide_eq_false hd]; simp)
    simp only [decide_eq_false hd] at hI
    go_enter Tryz.func211, Tryz.ntmps211
    go_wp2_with (first | (go_at_call 7; with_reducible refine (hG _).mono ?_; rintro e w1 ⟨rfl, e1⟩; subst e1) | (go_at_call 213; with_reducible refine (hI _).mono ?_; rintro e w1 ⟨rfl, e1⟩; subst e1))
    go_ret
    rw [hr.out]
    exact ⟨rfl, HB.out⟩
  simp only [decide_eq_true hd] at hI
  by_cases t1 : a.typ < 1
  · have hr : Hid (fitsB L a = false) := Lib.hid (by unfold fitsB; rw [decide_eq_false (show ¬ 1 ≤ a.typ by omega)]; simp)
    go_enter Tryz.func211, Tryz.ntmps211
    go_wp2_with (first | (go_at_call 7; with_reducible refine (hG _).mono ?_; rintro e w1 ⟨rfl, e1⟩; subst e1) | (go_at_call 213; with_reducible refine (hI _).mono ?_; rintro e w1 ⟨rfl, e1⟩; subst e1))
    go_ret
    rw [hr.out]
    exact ⟨rfl, HB.out⟩
  by_cases t5 : 5 < a.typ
  · have hr : Hid (fitsB L a = false) := Lib.hid (by unfold fitsB; rw [decide_eq_false (show ¬ a.typ ≤ 5 by omega)]; simp)
    go_enter Tryz.func211, Tryz.ntmps211
    go_wp2_with (first | (go_at_call 7; with_reducible refine (hG _).mono ?_; rintro e w1 ⟨rfl, e1⟩; subst e1) | (go_at_call 213; with_reducible refine (hI _).mono ?_; rintro e w1 ⟨rfl, e1⟩; subst e1))
    go_ret
    rw [hr.out]
    exact ⟨rfl, HB.out⟩
  have hfit : fitsB L a = match parentF a.name with
      | none => true
      | some u => match findA L u with
        | none => false
        | some p => decide (p.typ = a.typ) && decide (p.opened ≤ a.opened) && (!p.closed || a.closed) := by
    unfold fitsB; rw [hg, decide_eq_true hd, decide_eq_true (show 1 ≤ a.typ by omega), decide_eq_true (show a.typ ≤ 5 by omega)]; simp
  cases hp : parentF a.name with
  | none =>
    rw [hp] at hfit hP
    have hr : Hid (fitsB L a = true) := Lib.hid hfit
    clear hfit hp hd hg
    go_enter Tryz.func211, Tryz.ntmps211
    go_wp2_with (first | (go_at_call 7; with_reducible refine (hG _).mono ?_; rintro e w1 ⟨rfl, e1⟩; subst e1) | (go_at_call 213; with_reducible refine (hI _).mono ?_; rintro e w1 ⟨rfl, e1⟩; subst e1) | (go_at_call 11; with_reducible refine (hP _).mono ?_; rintro e w2 ⟨rfl, hb2⟩; obtain ⟨p0, p1, p2, p3, hB2⟩ := acc_box hb2; have HB := Lib.hid hB2; clear hb2 hB2))
    go_ret
    rw [hr.out]
    exact ⟨rfl, HB.out⟩
  | some u =>
  rw [hp] at hfit hP
  simp only [Option.getD_some, Option.isSome_some] at hP
  rcases at_cases L u with ⟨e1, e2, _⟩ | ⟨k, hk, e1, e2, e3, _⟩
  · have hr : Hid (fitsB L a = false) := Lib.hid (by rw [hfit]; simp only [e2])
    have E1 := Lib.hid e1
    clear hfit hp hd hg e1 e2 HB
    go_enter Tryz.func211, Tryz.ntmps211
    go_wp2_with (first | (go_at_call 7; with_reducible refine (hG _).mono ?_; rintro e w1 ⟨rfl, e1⟩; subst e1) | (go_at_call 213; with_reducible refine (hI _).mono ?_; rintro e w1 ⟨rfl, e1⟩; subst e1) | (go_at_call 11; with_reducible refine (hP _).mono ?_; rintro e w2 ⟨rfl, hb2⟩; obtain ⟨p0, p1, p2, p3, hB2⟩ := acc_box hb2; have HB := Lib.hid hB2; clear hb2 hB2) | (go_at_call 214; have hh := at_any (H.out.below HB.out) u; rw [E1.out] at hh; with_reducible refine hh.mono ?_; rintro e w3 ⟨rfl, e3⟩; subst e3; clear hh))
    go_quiet (fail)
    go_wp2
    go_ret
    rw [hr.out]
    exact ⟨rfl, below_drewN HB.out _⟩
  simp only [e2] at hfit
  obtain ⟨g, rfl, hg0, _⟩ := (H.out.read k hk).ex
  obtain ⟨p, hpe⟩ : ∃ p, p = L[k] := ⟨_, rfl⟩
  rw [← hpe] at hfit
  have HPE := Lib.hid hpe
  have E1 := Lib.hid e1
  have HR : Hid (∀ W, Below w.heap.size w W → W.cell? ⟨g, k * 4 + 1, none⟩ = some (.int .i64 p.typ) ∧ W.cell? ⟨g, k * 4 + 2, none⟩ = some (.int .i64 p.opened) ∧ W.cell? ⟨g, k * 4 + 3, none⟩ = some (.bool p.closed) ∧ W.cell? ⟨rb, 0, none⟩ = some (.slice (some ⟨g, 0, none⟩) L.length c) ∧ g < W.heap.size ∧ rb < W.heap.size) := Lib.hid (fun W hb => by
    obtain ⟨g', e4, q0, _, q1, q2, q3⟩ := ((H.out.below hb).read k hk).ex
    obtain rfl : g = g' := by injection e4 with e4; injection e4
    rw [← HPE.out] at q1 q2 q3
    have := hb.size
    exact ⟨q1, q2, q3, (H.out.below hb).c0, q0, by omega⟩)
  clear hp hd hg e1 e2 hpe e3 HB
  have HF := Lib.hid hfit
  clear hfit
  cases x1 : (p.typ == a.typ) with
  | false =>
    have hr : Hid (fitsB L a = false) := Lib.hid (by rw [HF.out, decide_eq_false (by simpa using x1)]; rfl)
    go_enter Tryz.func211, Tryz.ntmps211
    go_wp2_with (first | (go_at_call 7; with_reducible refine (hG _).mono ?_; rintro e w1 ⟨rfl, e1⟩; subst e1) | (go_at_call 213; with_reducible refine (hI _).mono ?_; rintro e w1 ⟨rfl, e1⟩; subst e1) | (go_at_call 11; with_reducible refine (hP _).mono ?_; rintro e w2 ⟨rfl, hb2⟩; obtain ⟨p0, p1, p2, p3, hB2⟩ := acc_box hb2; have HB := Lib.hid hB2; obtain ⟨r1, r2, r3, rc, rg, rl⟩ := HR.out _ hB2; clear hb2 hB2) | (go_at_call 214; have hh := at_any (H.out.below HB.out) u; rw [E1.out] at hh; with_reducible refine hh.mono ?_; rintro e w3 ⟨rfl, e3⟩; subst e3; clear hh))
    go_quiet (fail)
    go_wp2
    go_ret
    rw [hr.out]
    exact ⟨rfl, below_drewN HB.out _⟩
  | true =>
  by_cases x2 : p.opened ≤ a.opened
  case neg =>
    have x2d : decide (p.opened ≤ a.opened) = false := decide_eq_false x2
    have hr : Hid (fitsB L a = false) := Lib.hid (by rw [HF.out, decide_eq_false x2]; simp)
    go_enter Tryz.func211, Tryz.ntmps211
    go_wp2_with (first | (go_at_call 7; with_reducible refine (hG _).mono ?_; rintro e w1 ⟨rfl, e1⟩; subst e1) | (go_at_call 213; with_reducible refine (hI _).mono ?_; rintro e w1 ⟨rfl, e1⟩; subst e1) | (go_at_call 11; with_reducible refine (hP _).mono ?_; rintro e w2 ⟨rfl, hb2⟩; obtain ⟨p0, p1, p2, p3, hB2⟩ := acc_box hb2; have HB := Lib.hid hB2; obtain ⟨r1, r2, r3, rc, rg, rl⟩ := HR.out _ hB2; clear hb2 hB2) | (go_at_call 214; have hh := at_any (H.out.below HB.out) u; rw [E1.out] at hh; with_reducible refine hh.mono ?_; rintro e w3 ⟨rfl, e3⟩; subst e3; clear hh))
    go_quiet (fail)
    go_wp2
    go_ret
    rw [hr.out]
    exact ⟨rfl, below_drewN HB.out _⟩
  cases x3 : p.closed with
  | false =>
    have hr : Hid (fitsB L a = true) := Lib.hid (by rw [HF.out, decide_eq_true x2, x3, decide_eq_true (by simpa using x1)]; rfl)
    simp only [x3] at HR
    go_enter Tryz.func211, Tryz.ntmps211
    go_wp2_with (first | (go_at_call 7; with_reducible refine (hG _).mono ?_; rintro e w1 ⟨rfl, e1⟩; subst e1) | (go_at_call 213; with_reducible refine (hI _).mono ?_; rintro e w1 ⟨rfl, e1⟩; subst e1) | (go_at_call 11; with_reducible refine (hP _).mono ?_; rintro e w2 ⟨rfl, hb2⟩; obtain ⟨p0, p1, p2, p3, hB2⟩ := acc_box hb2; have HB := Lib.hid hB2; obtain ⟨r1, r2, r3, rc, rg, rl⟩ := HR.out _ hB2; clear hb2 hB2) | (go_at_call 214; have hh := at_any (H.out.below HB.out) u; rw [E1.out] at hh; with_reducible refine hh.mono ?_; rintro e w3 ⟨rfl, e3⟩; subst e3; clear hh))
    go_quiet (fail)
    go_wp2
    go_ret
    rw [hr.out]
    exact ⟨rfl, below_drewN HB.out _⟩
  | true =>
    have hr : Hid (fitsB L a = a.closed) := Lib.hid (by rw [HF.out, decide_eq_true x2, x3, decide_eq_true (by simpa using x1)]; simp)
    simp only [x3] at HR
    go_enter Tryz.func211, Tryz.ntmps211
    go_wp2_with (first | (go_at_call 7; with_reducible refine (hG _).mono ?_; rintro e w1 ⟨rfl, e1⟩; subst e1) | (go_at_call 213; with_reducible refine (hI _).mono ?_; rintro e w1 ⟨rfl, e1⟩; subst e1) | (go_at_call 11; with_reducible refine (hP _).mono ?_; rintro e w2 ⟨rfl, hb2⟩; obtain ⟨p0, p1, p2, p3, hB2⟩ := acc_box hb2; have HB := Lib.hid hB2; obtain ⟨r1, r2, r3, rc, rg, rl⟩ := HR.out _ hB2; clear hb2 hB2) | (go_at_call 214; have hh := at_any (H.out.below HB.out) u; rw [E1.out] at hh; with_reducible refine hh.mono ?_; rintro e w3 ⟨rfl, e3⟩; subst e3; clear hh))
    go_quiet (fail)
    go_wp2
    go_ret
    rw [hr.out]
    exact ⟨rfl, below_drewN HB.out _⟩

/-- The first accounts of a list are in order. -/
def OkUpto (l : List Acct) (k : Nat) : Prop := ∀ j (hj : j < l.length), j < k → fitsB l l[j] = true ∧ ∀ (h0 : 0 < j), cmpB (l[j - 1]'(by omega)).name l[j].name < 0
theorem fitsB_iff {L : List Acct} {a : Acct} : fitsB L a = true ↔ goodB a.name.data.toList = true ∧ (1 ≤ a.opened ∧ a.opened ≤ 3652059) ∧ (1 ≤ a.typ ∧ a.typ ≤ 5) ∧ ∀ u, parentF a.name = some u → ∃ p, findA L u = some p ∧ p.typ = a.typ ∧ p.opened ≤ a.opened ∧ (p.closed = true → a.closed = true) := by
  unfold fitsB
  rw [Bool.and_eq_true, Bool.and_eq_true, Bool.and_eq_true, Bool.and_eq_true, decide_eq_true_eq, decide_eq_true_eq, decide_eq_true_eq]
  constructor
  · rintro ⟨⟨⟨h1, h2⟩, h3, h4⟩, h5⟩
    refine ⟨h1, h2, ⟨h3, h4⟩, fun u hu => ?_⟩
    rw [hu] at h5
    simp only at h5
    cases hf : findA L u with
    | none => rw [hf] at h5; cases h5
    | some p =>
      rw [hf] at h5
      simp only [Bool.and_eq_true, decide_eq_true_eq, Bool.or_eq_true, Bool.not_eq_true'] at h5
      refine ⟨p, rfl, h5.1.1, h5.1.2, fun hc => ?_⟩
      rcases h5.2 with h | h
      · rw [hc] at h; cases h
      · exact h
  · rintro ⟨h1, h2, ⟨h3, h4⟩, h5⟩
    refine ⟨⟨⟨h1, h2⟩, h3, h4⟩, ?_⟩
    cases hp : parentF a.name with
    | none => rfl
    | some u =>
      obtain ⟨p, hf, e1, e2, e3⟩ := h5 u hp
      simp only [hf, Bool.and_eq_true, decide_eq_true_eq, Bool.or_eq_true, Bool.not_eq_true']
      refine ⟨⟨e1, e2⟩, ?_⟩
      cases hc : p.closed with
      | false => exact .inl rfl
      | true => exact .inr (e3 hc)
theorem rising_of_steps {l : List Acct} (h : ∀ j (hj : j < l.length) (h0 : 0 < j), cmpB (l[j - 1]'(by omega)).name l[j].name < 0) : Rising l := by
  unfold Rising
  rw [List.pairwise_iff_getElem]
  intro i j hi hj hij
  induction j with
  | zero => omega
  | succ j ih =>
    have h1 := h (j + 1) hj (by omega)
    simp only [Nat.add_sub_cancel] at h1
    by_cases e : i = j
    · subst e; exact h1
    · exact cmp_trans (ih (by omega) (by omega)) h1
theorem valid_of_upto {l : List Acct} (hl : l.length ≤ 100) (h : OkUpto l l.length) : Valid l := by
  have hf : ∀ a ∈ l, fitsB l a = true := fun a ha => by
    obtain ⟨j, hj, rfl⟩ := List.getElem_of_mem ha
    exact (h j hj hj).1
  refine ⟨rising_of_steps fun j hj h0 => (h j hj hj).2 h0, hl, fun a ha => (fitsB_iff.1 (hf a ha)).1, fun a ha u hu => ?_, fun a ha => (fitsB_iff.1 (hf a ha)).2.1, fun a ha => (fitsB_iff.1 (hf a ha)).2.2.1⟩
  obtain ⟨p, hp, h1, h2, h3⟩ := (fitsB_iff.1 (hf a ha)).2.2.2 u hu
  exact ⟨p, (findA_some hp).1, (findA_some hp).2, h1, h2, h3⟩
theorem upto_of_valid {l : List Acct} (hv : Valid l) (k : Nat) : OkUpto l k := by
  intro j hj _
  refine ⟨fitsB_iff.2 ⟨hv.good _ (List.getElem_mem hj), hv.day _ (List.getElem_mem hj), hv.typ _ (List.getElem_mem hj), fun u hu => ?_⟩, fun h0 => rising_get hv.rising hj (by omega)⟩
  obtain ⟨p, hp, e, h1, h2, h3⟩ := hv.up _ (List.getElem_mem hj) u hu
  exact ⟨p, by rw [← e]; exact find_mem hv.rising hp, h1, h2, h3⟩

/-- A list of accounts that can be read. -/
structure AccAt (w : World) (v : Value) (l : List Acct) : Prop where
  ex : ∃ A c, v = .slice A l.length c ∧ NilOk v ∧ ∀ j (hj : j < l.length), ∃ ad, A = some ad ∧ ad.block < w.heap.size ∧ w.cell? (ad.add (j * 4)) = some (.string l[j].name) ∧ w.cell? ((ad.add (j * 4)).add 1) = some (.int .i64 l[j].typ) ∧ w.cell? ((ad.add (j * 4)).add 2) = some (.int .i64 l[j].opened) ∧ w.cell? ((ad.add (j * 4)).add 3) = some (.bool l[j].closed)
theorem AccAt.row {w : World} {v : Value} {l : List Acct} (h : AccAt w v l) : RowAt w (fun _ => True) 4 v (l.map encA) := by
  obtain ⟨A, c, rfl, _, hx⟩ := h.ex
  refine ⟨A, c, by rw [List.length_map], fun j hj => ?_⟩
  have hj' : j < l.length := by simpa using hj
  obtain ⟨ad, e, hl, h0, h1, h2, h3⟩ := hx j hj'
  refine ⟨ad, e, hl, trivial, fun i u hu => ?_⟩
  rw [List.getElem_map] at hu
  match i, hu with
  | 0, hu => obtain rfl : Value.string l[j].name = u := by simpa [encA] using hu
             rw [Addr.add_add, Nat.add_zero]
             exact h0
  | 1, hu => obtain rfl : Value.int .i64 l[j].typ = u := by simpa [encA] using hu
             exact h1
  | 2, hu => obtain rfl : Value.int .i64 l[j].opened = u := by simpa [encA] using hu
             exact h2
  | 3, hu => obtain rfl : Value.bool l[j].closed = u := by simpa [encA] using hu
             exact h3
  | i + 4, hu => simp [encA] at hu
theorem AccAt.below {w w' : World} {v : Value} {l : List Acct} (h : AccAt w v l) (hb : Below w.heap.size w w') : AccAt w' v l := by
  obtain ⟨A, c, rfl, hn, hx⟩ := h.ex
  have hs := hb.size
  refine ⟨A, c, rfl, hn, fun j hj => ?_⟩
  obtain ⟨ad, e, hl, h0, h1, h2, h3⟩ := hx j hj
  exact ⟨ad, e, by omega, (hb.cell (p := ad.add (j * 4)) (by rw [block_add]; exact hl)).trans h0, (hb.cell (p := (ad.add (j * 4)).add 1) (by rw [block_add, block_add]; exact hl)).trans h1, (hb.cell (p := (ad.add (j * 4)).add 2) (by rw [block_add, block_add]; exact hl)).trans h2, (hb.cell (p := (ad.add (j * 4)).add 3) (by rw [block_add, block_add]; exact hl)).trans h3⟩
end Go.Proofs.YtplocldnklccfaaGreatDoor
