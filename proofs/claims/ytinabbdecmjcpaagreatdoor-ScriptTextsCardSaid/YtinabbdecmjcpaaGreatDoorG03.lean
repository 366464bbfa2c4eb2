/- Contracts of name.Hex, name.Bytes, of the reference's Hex, Hexes, Same: what each answers, by the plain functions; nothing that was there is changed. Contracts of name.Bytes, of the reference's Hex, Hexes, Same: what each answers, by the plain functions; nothing that was there is changed. Contracts of the references' Hex, Same, in, only, Hexes: what each answers, by the plain functions; nothing that was there is changed. -/
import Derived.Laws.IdiomStrings
import Derived.Test.YtinabbdecmjcpaaGreatDoorG01
import Derived.Test.YtinabbdecmjcpaaGreatDoorG02
namespace Go.Proofs.YtinabbdecmjcpaaGreatDoor.Hex
open Go.RowKit Go.Proofs.YtinabbdecmjcpaaGreatDoor.Plain Go.Proofs.YtinabbdecmjcpaaGreatDoor.Words
set_option linter.unusedVariables false

theorem info5 : (Tryz.prog.info? 5).map (fun i => (i.zero, i.size, i.bytes)) = some (some (.int .u8 0), 1, 1) := by kernel_rfl

/-- A byte as a value. -/
abbrev bv (c : UInt8) : Value := .int .u8 (c.toNat : Int)
/-- A slice of bytes in memory of the call's own. -/
def Bys (w : World) (B : Nat) (v : Value) (l : List UInt8) : Prop := w.ownsRow B 5 1 v l.length (l.map bv)
/-- A slice of bytes, wherever it lies. -/
def BRow (w : World) (v : Value) (l : List UInt8) : Prop :=
  (l = [] ∧ ∃ a cap, v = .slice a 0 cap) ∨ (∃ g o cap, v = .slice (some ⟨g, o, none⟩) l.length cap ∧ g < w.heap.size ∧ ∀ i (h : i < l.length), w.cell? ⟨g, o + i, none⟩ = some (bv l[i]))

theorem bys_row {w : World} {B : Nat} {v : Value} {l : List UInt8} (h : Bys w B v l) : BRow w v l := by
  have h' := h
  obtain ⟨h1, h2⟩ := h
  rcases h2 with ⟨rfl, h0⟩ | ⟨g, cap, cur, rfl, hB, hc, hn, hcap, hcz, ht⟩
  · exact .inl ⟨List.length_eq_zero_iff.1 h0, none, 0, rfl⟩
  · refine .inr ⟨g, 0, cap, rfl, lt_of_block hc, fun i hi => ?_⟩
    have := World.ownsRow.cellAt h' i (by simpa using hi)
    rw [Nat.zero_add]
    rw [this]
    simp [hi]

theorem brow_below {w w' : World} {v : Value} {l : List UInt8} (hb : Below w.heap.size w w') (h : BRow w v l) : BRow w' v l := by
  rcases h with h | ⟨g, o, cap, rfl, hg, hc⟩
  · exact .inl h
  · exact .inr ⟨g, o, cap, rfl, Nat.lt_of_lt_of_le hg hb.size, fun i hi => (hb.cell (p := ⟨g, o + i, none⟩) hg).trans (hc i hi)⟩

theorem addr_add (b off k : Nat) : (⟨b, off, none⟩ : Addr).add k = ⟨b, off + k, none⟩ := by
  unfold Addr.add
  split
  · simp_all
  · rfl

theorem sign_any (x : Int) (h0 : 0 ≤ x) (h : x < 16) (w : World) : Calls Tryz.prog 74 #[.int .u8 x] w fun e w' => e = .returned (bv (sg x.toNat)) ∧ w = w' := by
  have e : (bv (sg x.toNat)) = .int .u8 (if x < 10 then 48 + x else 87 + x) := by
    show Value.int .u8 _ = _
    rw [sg_toNat x.toNat (by omega)]
    congr 1
    split <;> split <;> omega
  rw [e]
  clear e
  by_cases h1 : x < 10
  · rw [if_pos h1]
    go_enter Tryz.func74, Tryz.ntmps74
    go_wp2
    go_ret
    exact ⟨rfl, rfl⟩
  · rw [if_neg h1]
    go_enter Tryz.func74, Tryz.ntmps74
    go_wp2
    go_ret
    exact ⟨by simp; omega, rfl⟩

set_option maxRecDepth 100000 in
set_option maxHeartbeats 1000000 in
theorem hex_more (l : List UInt8) (g o cap : Nat) (w : World) (h0 : 0 < l.length) (hl : l.length ≤ 1000000000000) (hg : g < w.heap.size) (hc : ∀ i (h : i < l.length), w.cell? ⟨g, o + i, none⟩ = some (bv l[i])) :
    Calls Tryz.prog 52 #[.slice (some ⟨g, o, none⟩) l.length cap] w fun e w' => e = .returned (.string (S (hexs l))) ∧ Below w.heap.size w w' := by
  obtain ⟨i0, hi, hz0, hz1, hz2⟩ := info_parts info5
  have HC := Lib.hid hc
  clear hc
  have hl0 : ((l.length : Int) == 0) = false := by rw [beq_eq_false_iff_ne]; omega
  go_enter Tryz.func52, Tryz.ntmps52
  go_wp2_with (at_make; refine wpList_make_own _ rfl _ _ 42 rfl w.heap.size 5 i0 (.int .u8 0) 1 Tryz.underlying42 hi hz0 hz1 .i64 .i64 _ (2 * l.length) rfl rfl (by omega) (by rw [hz2]; omega) (by unfold maxLen; omega) (Nat.le_refl _) ?_; intro w1 hown1 hgrow1)
  have hbel1 : Below w.heap.size w w1 := (Below.refl _ _).grown hgrow1 (Nat.le_refl _) (fun k hk => by cases hk)
  clear hgrow1
  go_loopw [3, 15] (fun v i wr => ∃ k : Nat, k ≤ l.length ∧ i = .int .i64 k ∧ v = .slice (some ⟨w.heap.size, 0, none⟩) (2 * k) (2 * l.length) ∧ wr.ownsRow w.heap.size 5 1 (.slice (some ⟨w.heap.size, 0, none⟩) (2 * k) (2 * l.length)) (2 * k) ((hexs (l.take k)).map bv) ∧ Below w.heap.size w wr) (fun _ i _ => l.length - (intOf i).toNat)
  case atStart => exact ⟨0, by omega, rfl, rfl, hown1, hbel1⟩
  case round =>
    clear hown1 hbel1
    obtain ⟨k, hk, rfl, rfl, hown, hbel⟩ := hrel
    by_cases hlt : k < l.length
    · have hx : wr.cell? ⟨g, o + k, none⟩ = some (bv l[k]) := (hbel.cell (p := ⟨g, o + k, none⟩) hg).trans (HC.out k hlt)
      have hsn : hexs (l.take (k + 1)) = hexs (l.take k) ++ two l[k] := by
        rw [List.take_succ_eq_append_getElem hlt, hexs_snoc]
      have HS := Lib.hid hsn
      clear hsn
      generalize l[k] = c at *
      have hc1 := c.toNat_lt
      have h15 := and15 c
      go_wp2_with fail
      refine (sign_any _ (by omega) (by omega) _).mono ?_
      rintro e w' ⟨rfl, rfl⟩
      go_wp2_with fail
      refine (sign_any _ (by omega) (by omega) _).mono ?_
      rintro e w' ⟨rfl, rfl⟩
      rw [show ((c.toNat : Int) / 16).toNat = c.toNat / 16 by omega, show ((c.toNat : Int) % 16).toNat = c.toNat % 16 by omega]
      generalize ha : sg (c.toNat / 16) = a at *
      generalize hb : sg (c.toNat % 16) = b at *
      have HA := Lib.hid ha
      have HB := Lib.hid hb
      clear ha hb h15
      go_wp2_with (at_builtin; refine wpList_append_fits _ rfl _ _ 42 rfl w.heap.size 5 i0 1 Tryz.underlying42 hi hz1 w.heap.size (2 * k) (2 * l.length) _ rfl (World.ownsRow.alloc hown _) ⟨wr.heap.size, 0, none⟩ 2 2 [bv a, bv b] rfl rfl (cell_two_new _ _ _ _) (fun x hx => by simp at hx; rcases hx with rfl | rfl <;> rfl) (by omega) ?_; intro w3 hown3 hgrow3)
      have hbel3 : Below w.heap.size w w3 := (hbel.alloc hbel.size _).grown hgrow3 (by have := hbel.size; simp; omega) (fun j hj => by cases hj; exact Nat.le_refl _)
      have hown4 : w3.ownsRow w.heap.size 5 1 (.slice (some ⟨w.heap.size, 0, none⟩) (2 * (k + 1)) (2 * l.length)) (2 * (k + 1)) ((hexs (l.take (k + 1))).map bv) := by
        rw [HS.out]
        have e : two c = [a, b] := by rw [← HA.out, ← HB.out]; rfl
        rw [e, show 2 * (k + 1) = 2 * k + 2 by omega]
        simpa using hown3
      clear hown3 hgrow3 hown
      go_roundw
      case rel => exact ⟨k + 1, by omega, by go_num, rfl, hown4, hbel3⟩
      case measure => simp [intOf]; omega
    · obtain rfl : k = l.length := by omega
      rw [List.take_length] at hown
      have hcv : (convert 42 9 (.slice (some ⟨w.heap.size, 0, none⟩) (2 * l.length) (2 * l.length))).run Tryz.prog wr = .ok (.string ⟨(hexs l).toArray⟩) wr := by
        have := run_convert_bytes_back (P := Tryz.prog) wr 42 9 5 ⟨w.heap.size, 0, none⟩ (2 * l.length) (hexs l) Tryz.underlying42 Tryz.underlying5 Tryz.underlying9 (fun j hj => by
          rw [addr_add, Nat.zero_add, World.ownsRow.cellAt hown j (by rw [hexs_len] at hj; omega)]
          simp [hj])
        rw [hexs_len] at this
        exact this
      clear hown
      go_wp2_with fail
      go_ret
      exact ⟨rfl, hbel⟩

/-- name.Hex, of any bytes. -/
theorem hex_any (l : List UInt8) (v : Value) (w : World) (hl : l.length ≤ 1000000000000) (h : BRow w v l) : Calls Tryz.prog 52 #[v] w fun e w' => e = .returned (.string (S (hexOf l))) ∧ Below w.heap.size w w' := by
  by_cases h0 : l.length = 0
  · obtain rfl := List.length_eq_zero_iff.1 h0
    rw [show hexOf [] = [45] from rfl]
    obtain ⟨a, cap, rfl⟩ : ∃ a cap, v = .slice a 0 cap := by
      rcases h with ⟨_, h⟩ | ⟨g, o, cap, rfl, _⟩
      · exact h
      · exact ⟨_, _, rfl⟩
    go_enter Tryz.func52, Tryz.ntmps52
    go_wp2
    go_ret
    exact ⟨rfl, Below.refl _ _⟩
  · rcases h with ⟨rfl, _⟩ | ⟨g, o, cap, rfl, hg, hc⟩
    · exact absurd rfl h0
    · rw [show hexOf l = hexs l by unfold hexOf; rw [if_neg (fun e => h0 (by rw [e]; rfl))]]
      exact hex_more l g o cap w (by omega) hl hg hc
end Go.Proofs.YtinabbdecmjcpaaGreatDoor.Hex

namespace Go.Proofs.YtinabbdecmjcpaaGreatDoor.Hex
open Go.RowKit Go.Proofs.YtinabbdecmjcpaaGreatDoor.Plain Go.Proofs.YtinabbdecmjcpaaGreatDoor.Words Go.Proofs.YtinabbdecmjcpaaGreatDoor.Named
set_option linter.unusedVariables false

theorem nibble_yes (r x : Nat) (w : World) (h : nib r = some x) : Calls Tryz.prog 92 #[.int .i32 (r : Int)] w fun e w' => e = .returned (.tuple #[.int .u8 (x : Int), .bool true]) ∧ w = w' := by
  unfold nib at h
  split at h
  · rename_i h1
    obtain ⟨a, b⟩ := h1
    cases h
    have hd := Lib.hid (digit_any (r : Int))
    have hb : digitB (r : Int) = true := by simp [digitB]; omega
    have HB := Lib.hid hb
    clear hb
    have e1 : ((r - 48 : Nat) : Int) = (r : Int) - 48 := by omega
    rw [e1]
    clear e1
    go_enter Tryz.func92, Tryz.ntmps92
    go_wp2_with (go_at_call 89; refine (hd.out _).mono ?_; rintro e w' ⟨rfl, rfl⟩; rw [HB.out])
    go_ret2
    exact ⟨rfl, rfl⟩
  · split at h
    · rename_i h1 h2
      obtain ⟨a, b⟩ := h2
      cases h
      clear h1
      have hd := Lib.hid (digit_any (r : Int))
      have hb : digitB (r : Int) = false := by simp [digitB]; omega
      have HB := Lib.hid hb
      clear hb
      have e1 : ((r - 87 : Nat) : Int) = (r : Int) - 97 + 10 := by omega
      rw [e1]
      clear e1
      go_enter Tryz.func92, Tryz.ntmps92
      go_wp2_with (go_at_call 89; refine (hd.out _).mono ?_; rintro e w' ⟨rfl, rfl⟩; rw [HB.out])
      go_ret2
      exact ⟨rfl, rfl⟩
    · cases h

theorem nibble_no (r : Nat) (w : World) (h : nib r = none) : Calls Tryz.prog 92 #[.int .i32 (r : Int)] w fun e w' => e = .returned (.tuple #[.int .u8 0, .bool false]) ∧ w = w' := by
  unfold nib at h
  split at h
  · cases h
  · split at h
    · cases h
    · rename_i h1 h2
      clear h
      have hd := Lib.hid (digit_any (r : Int))
      have hb : digitB (r : Int) = false := by simp [digitB]; omega
      have HB := Lib.hid hb
      clear hb
      by_cases a : 97 ≤ (r : Int)
      · have hx : decide ((r : Int) ≤ 102) = false := by simp; omega
        clear h1 h2
        go_enter Tryz.func92, Tryz.ntmps92
        go_wp2_with (go_at_call 89; refine (hd.out _).mono ?_; rintro e w' ⟨rfl, rfl⟩; rw [HB.out])
        go_ret2
        exact ⟨rfl, rfl⟩
      · have hx : decide (97 ≤ (r : Int)) = false := by simp; omega
        clear h1 h2
        go_enter Tryz.func92, Tryz.ntmps92
        go_wp2_with (go_at_call 89; refine (hd.out _).mono ?_; rintro e w' ⟨rfl, rfl⟩; rw [HB.out])
        go_ret2
        exact ⟨rfl, rfl⟩

/-- What name.Bytes answers. -/
def BytesPost (r : Option (List UInt8)) (w : World) (e : Ending) (w' : World) : Prop :=
  ∃ (v : Value) (n : Int), e = .returned (.tuple #[v, .int .i64 n]) ∧ Below w.heap.size w w' ∧ ((r = none ∧ v = .slice none 0 0 ∧ n = 2) ∨ (∃ l, r = some l ∧ n = 0 ∧ Bys w' w.heap.size v l))

/-- The number of the digit at a place. -/
def nv (s : ByteArray) (i : Nat) : Nat := (nib (s.get! i).toNat).getD 0
/-- What the bytes are when the digits ahead of 'pos' have been taken. -/
def outAt (s : ByteArray) (pos j : Nat) : Nat := if 2 * j + 1 < pos then 16 * nv s (2 * j) + nv s (2 * j + 1) else if 2 * j < pos then nv s (2 * j) else 0

theorem nv_lt (s : ByteArray) (i : Nat) : nv s i < 16 := by
  unfold nv
  cases h : nib (s.get! i).toNat with
  | none => simp
  | some x => simpa using nib_lt h
theorem outAt_lt (s : ByteArray) (pos j : Nat) : outAt s pos j < 256 := by
  have a := nv_lt s (2 * j)
  have b := nv_lt s (2 * j + 1)
  unfold outAt
  split
  · omega
  · split <;> omega
/-- All that were taken are digits. -/
def Digs (s : ByteArray) (pos : Nat) : Prop := ∀ i, i < pos → ∀ h : i < s.size, (nib (s[i]'h).toNat).isSome = true

theorem outAt_step (s : ByteArray) (pos : Nat) : outAt s pos (pos / 2) < 16 ∧ outAt s (pos + 1) (pos / 2) = 16 * outAt s pos (pos / 2) + nv s pos ∧ ∀ j, j ≠ pos / 2 → outAt s (pos + 1) j = outAt s pos j := by
  have a := nv_lt s pos
  have b := nv_lt s (2 * (pos / 2))
  refine ⟨?_, ?_, ?_⟩
  · unfold outAt
    rw [if_neg (by omega)]
    split <;> omega
  · unfold outAt
    by_cases h : pos % 2 = 0
    · rw [if_neg (by omega), if_pos (by omega), if_neg (by omega), if_neg (by omega), show 2 * (pos / 2) = pos by omega]
      omega
    · rw [if_pos (by omega), if_neg (by omega), if_pos (by omega), show 2 * (pos / 2) + 1 = pos by omega]
  · intro j hj
    unfold outAt
    by_cases h1 : 2 * j + 1 < pos
    · rw [if_pos (by omega), if_pos h1]
    · rw [if_neg (by omega), if_neg h1]
      by_cases h2 : 2 * j < pos
      · rw [if_pos (by omega), if_pos h2]
      · rw [if_neg (by omega), if_neg h2]

/-- The cells. -/
def outs (s : ByteArray) (pos n : Nat) : List Value := (List.range n).map fun j => .int .u8 (outAt s pos j : Int)
theorem outs_len (s : ByteArray) (pos n : Nat) : (outs s pos n).length = n := by simp [outs]
theorem outs_get (s : ByteArray) (pos n j : Nat) (h : j < n) : (outs s pos n)[j]? = some (.int .u8 (outAt s pos j : Int)) := by simp [outs, h]
theorem outs_zero (s : ByteArray) (n : Nat) : outs s 0 n = List.replicate n (.int .u8 0) := by
  apply List.ext_getElem?
  intro j
  by_cases h : j < n
  · rw [outs_get s 0 n j h, List.getElem?_replicate, if_pos h]; simp [outAt]
  · rw [List.getElem?_eq_none (by rw [outs_len]; omega), List.getElem?_eq_none (by simp; omega)]
theorem outs_set (s : ByteArray) (pos n : Nat) : (outs s pos n).set (pos / 2) (.int .u8 ((16 * outAt s pos (pos / 2) + nv s pos : Nat) : Int)) = outs s (pos + 1) n := by
  obtain ⟨_, h1, h2⟩ := outAt_step s pos
  apply List.ext_getElem?
  intro j
  by_cases hj : j < n
  · rw [outs_get s (pos + 1) n j hj, List.getElem?_set]
    by_cases e : pos / 2 = j
    · subst e
      rw [if_pos rfl, if_pos (by rw [outs_len]; exact hj), h1]
    · rw [if_neg e, outs_get s pos n j hj, h2 j (fun x => e x.symm)]
  · rw [List.getElem?_eq_none (by rw [List.length_set, outs_len]; omega), List.getElem?_eq_none (by rw [outs_len]; omega)]

theorem get!_eq (s : ByteArray) (i : Nat) (h : i < s.size) : s.get! i = s[i]'h := by simp [ByteArray.get!, getElem!_pos, h]; rfl

theorem unhex_at : ∀ (n i : Nat) (s : ByteArray), i + 2 * n = s.size → (∀ j, i ≤ j → ∀ h : j < s.size, (nib (s[j]'h).toNat).isSome = true) → unhex ((L s).drop i) = some ((List.range n).map fun j => UInt8.ofNat (16 * nv s (i + 2 * j) + nv s (i + 2 * j + 1)))
  | 0, i, s, hi, hd => by
    rw [show (L s).drop i = [] by rw [List.drop_eq_nil_iff, L_len]; omega]
    rfl
  | n + 1, i, s, hi, hd => by
    have ih := unhex_at n (i + 2) s (by omega) (fun j hj h => hd j (by omega) h)
    have h1 : i < s.size := by omega
    have h2 : i + 1 < s.size := by omega
    rw [drop_cons s i h1, drop_cons s (i + 1) h2, unhex, ih]
    have d1 := hd i (by omega) h1
    have d2 := hd (i + 1) (by omega) h2
    obtain ⟨x, hx⟩ := Option.isSome_iff_exists.1 d1
    obtain ⟨y, hy⟩ := Option.isSome_iff_exists.1 d2
    rw [hx, hy]
    have e1 : nv s i = x := by unfold nv; rw [get!_eq s i h1, hx]; rfl
    have e2 : nv s (i + 1) = y := by unfold nv; rw [get!_eq s (i + 1) h2, hy]; rfl
    dsimp only
    rw [List.range_succ_eq_map, List.map_cons, List.map_map]
    simp only [Nat.mul_zero, Nat.add_zero, e1, e2]
    congr 2
    apply List.map_congr_left
    intro j _
    simp only [Function.comp]
    rw [show i + 2 * (j + 1) = i + 2 + 2 * j by omega]

theorem bytes_end (s : ByteArray) (h0 : 0 < s.size) (he : s.size % 2 = 0) (hd : Digs s s.size) :
    ∃ l, bytesOf (L s) = some l ∧ l.length = s.size / 2 ∧ l.map bv = outs s s.size (s.size / 2) := by
  have h45 : L s ≠ [45] := by
    intro e
    have := L_len s
    rw [e] at this
    simp at this
    omega
  have hne : L s ≠ [] := by
    intro e
    have := L_len s
    rw [e] at this
    simp at this
    omega
  have hu := unhex_at (s.size / 2) 0 s (by omega) (fun j _ h => hd j h h)
  refine ⟨_, by unfold bytesOf; rw [if_neg h45, if_neg hne]; simpa using hu, by simp, ?_⟩
  apply List.ext_getElem?
  intro j
  by_cases hj : j < s.size / 2
  · rw [outs_get s s.size _ j hj]
    simp only [List.getElem?_map, List.getElem?_range hj, Option.map_some]
    have a := nv_lt s (2 * j)
    have b := nv_lt s (2 * j + 1)
    unfold outAt
    rw [if_pos (by omega)]
    simp [bv, UInt8.toNat_ofNat']
    omega
  · rw [List.getElem?_eq_none (by simp; omega), List.getElem?_eq_none (by rw [outs_len]; omega)]

theorem bytes_bad (s : ByteArray) (h0 : 1 < s.size) (pos : Nat) (hp : pos < s.size) (hn : nib (s[pos]'hp).toNat = none) : bytesOf (L s) = none := by
  have h : hexesB (L s) = false := by
    unfold hexesB
    have h45 : L s ≠ [45] := by
      intro e
      have := L_len s
      rw [e] at this
      simp at this
      omega
    have hall : (L s).all (fun c => (nib c.toNat).isSome) = false := by
      rw [Bool.eq_false_iff]
      intro e
      rw [List.all_eq_true] at e
      have := e _ (List.mem_of_getElem? (get_L s pos hp))
      rw [hn] at this
      cases this
    rw [decide_eq_false h45, hall]
    simp
  rw [hexesB_eq] at h
  cases hb : bytesOf (L s) with
  | none => rfl
  | some x => rw [hb] at h; cases h

theorem nib_high (n : Nat) (h : 128 ≤ n) : nib n = none := by unfold nib; rw [if_neg (by omega), if_neg (by omega)]

theorem own_iterAt {w : World} {B K e n cap : Nat} {xs : List Value} {s : ByteArray} {pos : Nat} (h : w.ownsRow B e 1 (.slice (some ⟨B, 0, none⟩) n cap) n xs) (hne : B ≠ K) : (w.iterAt K s pos).ownsRow B e 1 (.slice (some ⟨B, 0, none⟩) n cap) n xs := by
  obtain ⟨h1, h2⟩ := h
  refine ⟨h1, ?_⟩
  rcases h2 with ⟨h2, _⟩ | ⟨g, c, cur, a, b, d, r⟩
  · cases h2
  · cases a
    exact .inr ⟨_, _, cur, rfl, b, by rw [Lib.iterAt_other _ _ _ _ _ hne]; exact d, r⟩

/-- One rune more, beside a row of the call's own. -/
theorem next_byte {P : Program} {w wr : World} {s : ByteArray} {pos B K n cap e : Nat} {xs : List Value} (hp : pos < s.size) (hit : wr.heap[K]? = some (.stringIter s pos)) (hown : wr.ownsRow B e 1 (.slice (some ⟨B, 0, none⟩) n cap) n xs) (hbel : Below B w wr) (hK : B < K) :
    ∃ (r k : Nat) (W1 : World), (∀ ty, (Instr.next (.pointer (some ⟨K, 0, none⟩)) true ty).run P wr = .ok (.tuple #[.bool true, .int .i64 pos, .int .i32 r]) W1) ∧ W1.heap[K]? = some (.stringIter s (pos + k)) ∧ W1.ownsRow B e 1 (.slice (some ⟨B, 0, none⟩) n cap) n xs ∧ Below B w W1 ∧ r ≤ 2147483647 ∧
      ((r = (s[pos]'hp).toNat ∧ k = 1) ∨ (128 ≤ r ∧ 128 ≤ (s[pos]'hp).toNat)) := by
  refine ⟨(Utf8.decode s pos).1, (Utf8.decode s pos).2, wr.iterAt K s (pos + (Utf8.decode s pos).2), fun ty => Lib.run_next_any_at wr K s pos ty hit hp, Lib.iterAt_heap wr K s pos _ hit, own_iterAt hown (by omega), Lib.below_iterAt hbel (by omega) s _, decode_le s pos, ?_⟩
  by_cases hc : (s[pos]'hp).toNat < 128
  · rw [decode_ascii s pos hp hc]
    exact .inl ⟨rfl, rfl⟩
  · exact .inr ⟨(decode_high s pos hp (by omega)).1, by omega⟩

theorem bytes_dash (w : World) : Calls Tryz.prog 77 #[.string ⟨#[45]⟩] w (BytesPost (some []) w) := by
  go_enter Tryz.func77, Tryz.ntmps77
  go_wp2
  go_ret2
  exact ⟨_, _, rfl, Below.refl _ _, .inr ⟨[], rfl, rfl, World.ownsRow_nil _ _ _ _⟩⟩

theorem dash_no (s : ByteArray) (h : L s ≠ [45]) : (s.toList == [45]) = false := by
  rw [ByteArray.toList_eq]
  simpa using h

theorem bytes_odd (s : ByteArray) (w : World) (hs : s.size ≤ 1000000000000) (h : L s ≠ [45]) (ho : s.size = 0 ∨ s.size % 2 ≠ 0) : Calls Tryz.prog 77 #[.string s] w (BytesPost none w) := by
  have hd := dash_no s h
  by_cases h0 : s.size = 0
  · have e : s = ⟨#[]⟩ := by
      have := L_len s
      rw [← S_L s, List.length_eq_zero_iff.1 (by omega : (L s).length = 0)]
    subst e
    clear h ho hd
    go_enter Tryz.func77, Tryz.ntmps77
    go_wp2
    go_ret2
    exact ⟨_, _, rfl, Below.refl _ _, .inl ⟨rfl, rfl, rfl⟩⟩
  · have ho' : s.size % 2 = 1 := by omega
    obtain ⟨e1, e2⟩ := empty_no s (by omega)
    have hb : (((s.size : Int) % 2) != 0) = true := by rw [bne_iff_ne]; omega
    clear h ho ho'
    go_enter Tryz.func77, Tryz.ntmps77
    go_wp2
    go_ret2
    exact ⟨_, _, rfl, Below.refl _ _, .inl ⟨rfl, rfl, rfl⟩⟩

set_option maxRecDepth 100000 in
set_option maxHeartbeats 1000000 in
theorem bytes_more (s : ByteArray) (w : World) (h0 : 0 < s.size) (he : s.size % 2 = 0) (hs : s.size ≤ 1000000000000) : Calls Tryz.prog 77 #[.string s] w (BytesPost (bytesOf (L s)) w) := by
  obtain ⟨i0, hi, hz0, hz1, hz2⟩ := info_parts info5
  have h45 : L s ≠ [45] := by
    intro e
    have := L_len s
    rw [e] at this
    simp at this
    omega
  have hd := dash_no s h45
  obtain ⟨e1, e2⟩ := empty_no s h0
  have hb : (((s.size : Int) % 2) != 0) = false := by rw [bne_eq_false_iff_eq]; omega
  clear h45
  obtain ⟨R, hR⟩ : ∃ R, R = bytesOf (L s) := ⟨_, rfl⟩
  rw [← hR]
  have HR := Lib.hid hR
  have HE := Lib.hid he
  clear hR he
  have hn1 : s.size / 2 ≤ s.size := by omega
  go_enter Tryz.func77, Tryz.ntmps77
  go_wp2_with (at_make; refine wpList_make_full _ rfl _ _ 42 rfl w.heap.size 5 i0 (.int .u8 0) 1 Tryz.underlying42 hi hz0 hz1 .i64 .i64 _ _ (s.size / 2) rfl rfl (by omega) (by omega) (by rw [hz2]; omega) (by unfold maxLen; omega) (Nat.le_refl _) ?_; intro w1 hown1 hgrow1)
  have hbel1 : Below w.heap.size w w1 := (Below.refl _ _).grown hgrow1 (Nat.le_refl _) (fun k hk => by cases hk)
  have hsz1 : w.heap.size < w1.heap.size := by
    rcases hown1.2 with ⟨h, _⟩ | ⟨g, c, cur, a, b, d, r⟩
    · cases h
    · cases a; exact lt_of_block d
  have hown2 : (w1.iter s 0).ownsRow w.heap.size 5 1 (.slice (some ⟨w.heap.size, 0, none⟩) (s.size / 2) (s.size / 2)) (s.size / 2) (outs s 0 (s.size / 2)) := by
    rw [outs_zero, ← toList_madeCells_one]
    rw [show s.size / 2 * 1 = s.size / 2 by omega] at hown1
    exact World.ownsRow.alloc hown1 _
  clear hgrow1 hown1
  go_loopw [] (fun wr => ∃ pos : Nat, pos ≤ s.size ∧ wr.heap[w1.heap.size]? = some (.stringIter s pos) ∧ wr.ownsRow w.heap.size 5 1 (.slice (some ⟨w.heap.size, 0, none⟩) (s.size / 2) (s.size / 2)) (s.size / 2) (outs s pos (s.size / 2)) ∧ Below w.heap.size w wr ∧ Hid (Digs s pos)) (fun wr => s.size - wr.iterPos w1.heap.size)
  case atStart => exact ⟨0, by omega, World.iter_heap w1 s 0, hown2, hbel1.alloc (by omega) _, Lib.hid (fun i hi => absurd hi (by omega))⟩
  case round =>
    clear hown2 hbel1
    obtain ⟨pos, hps, hit, hown, hbel, HD⟩ := hrel
    have hpos0 := iterPos_of hit
    generalize w1.heap.size = K at *
    by_cases hp : pos < s.size
    · obtain ⟨r, k, W1, hnx, hit2, hown2, hbel2, hr1, hcase⟩ := next_byte (P := Tryz.prog) hp hit hown hbel hsz1
      clear hit hown hbel
      cases hnr : nib r with
      | none =>
        have hbad : nib (s[pos]'hp).toNat = none := by
          rcases hcase with ⟨h1, _⟩ | ⟨_, h2⟩
          · rw [← h1]; exact hnr
          · exact nib_high _ h2
        have HB := Lib.hid hbad
        have HNR := Lib.hid hnr
        clear hbad hnr hcase
        go_wp2_with (go_at_call 92; refine (nibble_no _ _ HNR.out).mono ?_; rintro e w' ⟨rfl, rfl⟩)
        go_ret2
        exact ⟨_, _, rfl, hbel2, .inl ⟨by rw [HR.out]; exact bytes_bad s (by have := HE.out; omega) pos hp HB.out, rfl, rfl⟩⟩
      | some x =>
        obtain ⟨hrc, rfl⟩ : r = (s[pos]'hp).toNat ∧ k = 1 := by
          rcases hcase with h | ⟨h1, _⟩
          · exact h
          · rw [nib_high _ h1] at hnr; cases hnr
        have hx : nv s pos = x := by unfold nv; rw [get!_eq s pos hp, ← hrc, hnr]; rfl
        have hx16 := nib_lt hnr
        have HRC := Lib.hid hrc
        have HNR := Lib.hid hnr
        have HX := Lib.hid hx
        clear hrc hnr hx hcase
        have hj : pos / 2 < s.size / 2 := by have := HE.out; omega
        have hcl : W1.cell? ⟨w.heap.size, pos / 2, none⟩ = some (.int .u8 (outAt s pos (pos / 2) : Int)) := (World.ownsRow.cellAt hown2 (pos / 2) (by omega)).trans (outs_get s pos _ _ hj)
        have hfr : W1.frozen? ⟨w.heap.size, pos / 2, none⟩ = false := World.ownsRow.frozenAt hown2 _
        have ho16 := (outAt_step s pos).1
        have HOR := Lib.hid (or_shift (outAt s pos (pos / 2)) x ho16 hx16)
        have hst := (World.ownsRow.stored hown2 (pos / 2) (.int .u8 ((16 * outAt s pos (pos / 2) + nv s pos : Nat) : Int))).1
        rw [outs_set, HX.out] at hst
        have HO := Lib.hid hst
        clear hst
        generalize outAt s pos (pos / 2) = oa at *
        go_wp2_with (go_at_call 92; refine (nibble_yes _ _ _ HNR.out).mono ?_; rintro e w' ⟨rfl, rfl⟩)
        go_roundw
        case rel =>
          rw [HOR.out]
          refine ⟨pos + 1, by omega, by rw [Below.heap_setCell _ _ _ _ (by show K ≠ w.heap.size; omega)]; exact hit2, HO.out, hbel2.setCell (Nat.le_refl _) _, Lib.hid fun i hi h => ?_⟩
          by_cases e : i = pos
          · subst e
            rw [← HRC.out, HNR.out]; rfl
          · exact HD.out i (by omega) h
        case measure => rw [iterPos_of (by rw [Below.heap_setCell _ _ _ _ (by show K ≠ w.heap.size; omega)]; exact hit2), hpos0]; omega
    · have hnx : ∀ ty, (Instr.next (.pointer (some ⟨K, 0, none⟩)) true ty).run Tryz.prog wr = _ := fun ty => Lib.run_next_end_at wr K s pos ty hit hp
      obtain rfl : pos = s.size := by omega
      go_wp2_with fail
      go_ret2
      obtain ⟨l, b1, b2, b3⟩ := bytes_end s h0 HE.out HD.out
      refine ⟨_, _, rfl, hbel, .inr ⟨l, by rw [HR.out, b1], rfl, ?_⟩⟩
      unfold Bys
      rw [b2, b3]
      exact hown

/-- name.Bytes, of any text. -/
theorem bytes_any (s : ByteArray) (w : World) (hs : s.size ≤ 1000000000000) : Calls Tryz.prog 77 #[.string s] w (BytesPost (bytesOf (L s)) w) := by
  by_cases h45 : L s = [45]
  · have e : s = ⟨#[45]⟩ := by rw [← S_L s, h45]
    subst e
    exact bytes_dash w
  · by_cases h : s.size = 0 ∨ s.size % 2 ≠ 0
    · have e : bytesOf (L s) = none := by
        have hl := L_len s
        have h2 := hexesB_eq (L s)
        have h3 : hexesB (L s) = false := by
          unfold hexesB
          rw [decide_eq_false h45]
          rcases h with h | h
          · rw [decide_eq_false (by omega : ¬ 0 < (L s).length)]; simp
          · rw [decide_eq_false (by omega : ¬ (L s).length % 2 = 0)]; simp
        rw [h3] at h2
        cases hb : bytesOf (L s) with
        | none => rfl
        | some x => rw [hb] at h2; cases h2
      rw [e]
      exact bytes_odd s w hs h45 h
    · exact bytes_more s w (by omega) (by omega) hs
end Go.Proofs.YtinabbdecmjcpaaGreatDoor.Hex

namespace Go.Proofs.YtinabbdecmjcpaaGreatDoor.Hex
open Go.RowKit Go.Proofs.YtinabbdecmjcpaaGreatDoor.Plain Go.Proofs.YtinabbdecmjcpaaGreatDoor.Words Go.Proofs.YtinabbdecmjcpaaGreatDoor.Named
set_option linter.unusedVariables false

/-- The sixteen digits. -/
abbrev D16 : ByteArray := ⟨#[48, 49, 50, 51, 52, 53, 54, 55, 56, 57, 97, 98, 99, 100, 101, 102]⟩
theorem d16 (n : Nat) (h : n < 16) : D16.extract n (n + 1) = S [sg n] := by
  have : ∀ a : Fin 16, (D16.extract (a : Nat) ((a : Nat) + 1)).data = (S [sg (a : Nat)]).data := by decide +kernel
  exact ByteArray.ext (this ⟨n, h⟩)

set_option maxRecDepth 100000 in
set_option maxHeartbeats 1000000 in
theorem refhex_more (l : List UInt8) (g o cap : Nat) (w : World) (h0 : 0 < l.length) (hl : l.length ≤ 1000000000000) (hg : g < w.heap.size) (hc : ∀ i (h : i < l.length), w.cell? ⟨g, o + i, none⟩ = some (bv l[i])) :
    Calls Tryz.prog 24 #[.slice (some ⟨g, o, none⟩) l.length cap] w fun e w' => e = .returned (.string (S (hexs l))) ∧ Below w.heap.size w w' := by
  have HC := Lib.hid hc
  clear hc
  have hl0 : ((l.length : Int) == 0) = false := by rw [beq_eq_false_iff_ne]; omega
  go_enter Tryz.func24, Tryz.ntmps24
  go_wp2
  go_loopw [4, 5] (fun v i wr => ∃ k : Nat, k ≤ l.length ∧ i = .int .i64 k ∧ v = .string (S (hexs (l.take k))) ∧ Below w.heap.size w wr) (fun _ i _ => l.length - (intOf i).toNat)
  case atStart => exact ⟨0, by omega, rfl, rfl, Below.refl _ _⟩
  case round =>
    obtain ⟨k, hk, rfl, rfl, hbel⟩ := hrel
    by_cases hlt : k < l.length
    · have hx : wr.cell? ⟨g, o + k, none⟩ = some (bv l[k]) := (hbel.cell (p := ⟨g, o + k, none⟩) hg).trans (HC.out k hlt)
      have hsn : hexs (l.take (k + 1)) = hexs (l.take k) ++ two l[k] := by
        rw [List.take_succ_eq_append_getElem hlt, hexs_snoc]
      have HS := Lib.hid hsn
      clear hsn
      generalize l[k] = c at *
      have hpl : (hexs (l.take k)).length ≤ 2000000000000 := by rw [hexs_len, List.length_take]; omega
      generalize hexs (l.take k) = pre at *
      have hc1 := c.toNat_lt
      have k0 : (0 : Int) ≤ (k : Int) := by omega
      have k1 : (k : Int) < (l.length : Int) := by omega
      obtain ⟨n, hn⟩ : ∃ n : Nat, n = c.toNat := ⟨_, rfl⟩
      change wr.cell? ⟨g, o + k, none⟩ = some (.int .u8 (c.toNat : Int)) at hx
      rw [← hn] at hx hc1
      have HN := Lib.hid hn
      clear hn
      have s1 : ∀ W, (Instr.slice 9 (.string D16) (some (.int .u8 ((n : Int) / 16))) (some (.int .u8 ((n : Int) / 16 + 1))) none).run Tryz.prog W = .ok (.string (S [sg (n / 16)])) W := fun W => by
        rw [run_slice_string (P := Tryz.prog) W 9 D16 .u8 .u8 ((n : Int) / 16) ((n : Int) / 16 + 1) Tryz.underlying9 (by omega) (by omega) (by show (n : Int) / 16 + 1 ≤ 16; omega)]
        rw [show ((n : Int) / 16).toNat = n / 16 by omega, show ((n : Int) / 16 + 1).toNat = n / 16 + 1 by omega, d16 _ (by omega)]
      have s2 : ∀ W, (Instr.slice 9 (.string D16) (some (.int .u8 ((n : Int) % 16))) (some (.int .u8 ((n : Int) % 16 + 1))) none).run Tryz.prog W = .ok (.string (S [sg (n % 16)])) W := fun W => by
        rw [run_slice_string (P := Tryz.prog) W 9 D16 .u8 .u8 ((n : Int) % 16) ((n : Int) % 16 + 1) Tryz.underlying9 (by omega) (by omega) (by show (n : Int) % 16 + 1 ≤ 16; omega)]
        rw [show ((n : Int) % 16).toNat = n % 16 by omega, show ((n : Int) % 16 + 1).toNat = n % 16 + 1 by omega, d16 _ (by omega)]
      have w1 : IntKind.u8.wrap ((n : Int) / 16) = (n : Int) / 16 := IntWalk.u8_in _ (by omega)
      have w2 : IntKind.u8.wrap ((n : Int) / 16 + 1) = (n : Int) / 16 + 1 := IntWalk.u8_in _ (by omega)
      have w3 : (n : Int).tmod 16 = (n : Int) % 16 := IntWalk.rem_in _ _ (by omega)
      have w4 : IntKind.u8.wrap ((n : Int) % 16) = (n : Int) % 16 := IntWalk.u8_in _ (by omega)
      have w5 : IntKind.u8.wrap ((n : Int) % 16 + 1) = (n : Int) % 16 + 1 := IntWalk.u8_in _ (by omega)
      generalize hga : sg (n / 16) = ga at *
      generalize hgb : sg (n % 16) = gb at *
      have HA := Lib.hid hga
      have HB := Lib.hid hgb
      clear hga hgb
      go_wp2_with fail
      go_quiet (fail)
      clear w1 w2 w3 w4 w5
      go_wp2
      go_roundw
      case rel =>
        refine ⟨k + 1, by omega, by go_num, ?_, below_drewN hbel _⟩
        rw [HS.out, append_S, append_S]
        have e : two c = [ga, gb] := by rw [← HA.out, ← HB.out, HN.out]; rfl
        rw [e, List.append_assoc]
        rfl
      case measure => simp [intOf]; omega
    · go_wp2_with fail
      obtain rfl : k = l.length := by omega
      rw [List.take_length]
      go_ret
      exact ⟨rfl, hbel⟩

/-- The reference's Hex, of any bytes. -/
theorem refhex_any (l : List UInt8) (v : Value) (w : World) (hl : l.length ≤ 1000000000000) (h : BRow w v l) : Calls Tryz.prog 24 #[v] w fun e w' => e = .returned (.string (S (hexOf l))) ∧ Below w.heap.size w w' := by
  by_cases h0 : l.length = 0
  · obtain rfl := List.length_eq_zero_iff.1 h0
    rw [show hexOf [] = [45] from rfl]
    obtain ⟨a, cap, rfl⟩ : ∃ a cap, v = .slice a 0 cap := by
      rcases h with ⟨_, h⟩ | ⟨g, o, cap, rfl, _⟩
      · exact h
      · exact ⟨_, _, rfl⟩
    go_enter Tryz.func24, Tryz.ntmps24
    go_wp2
    go_ret
    exact ⟨rfl, Below.refl _ _⟩
  · rcases h with ⟨rfl, _⟩ | ⟨g, o, cap, rfl, hg, hc⟩
    · exact absurd rfl h0
    · rw [show hexOf l = hexs l by unfold hexOf; rw [if_neg (fun e => h0 (by rw [e]; rfl))]]
      exact refhex_more l g o cap w (by omega) hl hg hc

/-- Two lists of bytes agree so far. -/
def Agree (a b : List UInt8) (k : Nat) : Prop := ∀ i, i < k → a[i]? = b[i]?

set_option maxRecDepth 100000 in
set_option maxHeartbeats 1000000 in
theorem same_more (a b : List UInt8) (w : World) (g1 o1 c1 g2 o2 c2 : Nat) (hab : a.length = b.length) (hl : a.length ≤ 1000000000000) (hg1 : g1 < w.heap.size) (hg2 : g2 < w.heap.size) (h1 : ∀ i (h : i < a.length), w.cell? ⟨g1, o1 + i, none⟩ = some (bv a[i])) (h2 : ∀ i (h : i < b.length), w.cell? ⟨g2, o2 + i, none⟩ = some (bv b[i])) :
    Calls Tryz.prog 29 #[.slice (some ⟨g1, o1, none⟩) a.length c1, .slice (some ⟨g2, o2, none⟩) a.length c2] w fun e w' => e = .returned (.bool (decide (a = b))) ∧ Below w.heap.size w w' := by
  have H1 := Lib.hid h1
  have H2 := Lib.hid h2
  have HAB := Lib.hid hab
  obtain ⟨R, hR⟩ : ∃ R, R = decide (a = b) := ⟨_, rfl⟩
  rw [← hR]
  have HR := Lib.hid hR
  clear h1 h2 hab hR
  have hne : ((a.length : Int) != (a.length : Int)) = false := by simp
  go_enter Tryz.func29, Tryz.ntmps29
  go_wp2
  go_loopw [5] (fun i wr => ∃ k : Nat, k ≤ a.length ∧ i = .int .i64 k ∧ Below w.heap.size w wr ∧ Hid (Agree a b k)) (fun i _ => a.length - (intOf i).toNat)
  case atStart => exact ⟨0, by omega, rfl, Below.refl _ _, Lib.hid (fun i hi => absurd hi (by omega))⟩
  case round =>
    obtain ⟨k, hk, rfl, hbel, HG⟩ := hrel
    by_cases hlt : k < a.length
    · have hlt2 : k < b.length := by have := HAB.out; omega
      have a1 : wr.cell? ⟨g1, o1 + k, none⟩ = some (.int .u8 ((a[k]'hlt).toNat : Int)) := (hbel.cell (p := ⟨g1, o1 + k, none⟩) hg1).trans (H1.out k hlt)
      have a2 : wr.cell? ⟨g2, o2 + k, none⟩ = some (.int .u8 ((b[k]'hlt2).toNat : Int)) := (hbel.cell (p := ⟨g2, o2 + k, none⟩) hg2).trans (H2.out k hlt2)
      have k0 : (0 : Int) ≤ (k : Int) := by omega
      have k1 : (k : Int) < (a.length : Int) := by omega
      by_cases hx : a[k]'hlt = b[k]'hlt2
      · rw [← hx] at a2
        have HX := Lib.hid hx
        clear hx
        generalize (a[k]'hlt).toNat = x at a1 a2
        have hxx : ((x : Int) != (x : Int)) = false := by simp
        go_wp2_with fail
        go_quiet (fail)
        go_wp2
        go_roundw
        case rel =>
          refine ⟨k + 1, by omega, by go_num, below_drewN hbel _, Lib.hid fun i hi => ?_⟩
          by_cases e : i = k
          · subst e
            rw [List.getElem?_eq_getElem hlt, List.getElem?_eq_getElem hlt2, HX.out]
          · exact HG.out i (by omega)
        case measure => simp [intOf]; omega
      · have hxx : (((a[k]'hlt).toNat : Int) != ((b[k]'hlt2).toNat : Int)) = true := by
          rw [bne_iff_ne]
          intro e
          exact hx (UInt8.toNat_inj.1 (by omega))
        have HX := Lib.hid hx
        clear hx
        generalize (a[k]'hlt).toNat = x at *
        generalize (b[k]'hlt2).toNat = y at *
        go_wp2_with fail
        go_quiet (fail)
        go_wp2
        go_ret
        refine ⟨?_, below_drewN hbel _⟩
        have : R = false := by
          rw [HR.out, decide_eq_false_iff_not]
          intro e
          subst e
          exact HX.out rfl
        rw [this]; rfl
    · have he : R = true := by
        rw [HR.out, decide_eq_true_eq]
        apply List.ext_getElem?
        intro i
        by_cases h : i < a.length
        · exact HG.out i (by omega)
        · rw [List.getElem?_eq_none (by omega), List.getElem?_eq_none (by have := HAB.out; omega)]
      have HE := Lib.hid he
      clear he
      go_wp2_with fail
      go_ret
      exact ⟨by rw [HE.out]; rfl, hbel⟩

theorem brow_form {w : World} {v : Value} {l : List UInt8} (h : BRow w v l) : ∃ a cap, v = .slice a l.length cap := by
  rcases h with ⟨rfl, h⟩ | ⟨g, o, cap, rfl, _⟩
  · exact h
  · exact ⟨_, _, rfl⟩

/-- The reference's Same, of any two lists of bytes. -/
theorem same_any (a b : List UInt8) (v1 v2 : Value) (w : World) (hl : a.length ≤ 1000000000000) (hl2 : b.length ≤ 1000000000000) (h1 : BRow w v1 a) (h2 : BRow w v2 b) : Calls Tryz.prog 29 #[v1, v2] w fun e w' => e = .returned (.bool (decide (a = b))) ∧ Below w.heap.size w w' := by
  by_cases hab : a.length = b.length
  · by_cases h0 : a.length = 0
    · obtain ⟨a1, c1, rfl⟩ := brow_form h1
      obtain ⟨a2, c2, rfl⟩ := brow_form h2
      obtain rfl := List.length_eq_zero_iff.1 h0
      obtain rfl := List.length_eq_zero_iff.1 (hab ▸ h0)
      clear h1 h2
      simp only [List.length_nil, decide_true]
      go_enter Tryz.func29, Tryz.ntmps29
      go_wp2
      go_loopw [5] (fun i wr => i = .int .i64 0 ∧ w = wr) (fun i _ => 0)
      case atStart => exact ⟨rfl, rfl⟩
      case round =>
        obtain ⟨rfl, rfl⟩ := hrel
        go_wp2_with fail
        go_ret
        exact ⟨rfl, Below.refl _ _⟩
    · rcases h1 with ⟨rfl, _⟩ | ⟨g, o, cap, rfl, hg, hc⟩
      · exact absurd rfl h0
      · rcases h2 with ⟨rfl, _⟩ | ⟨g', o', cap', rfl, hg', hc'⟩
        · exact absurd hab h0
        · rw [← hab]
          exact same_more a b w g o cap g' o' cap' hab hl hg hg' hc hc'
  · obtain ⟨a1, c1, rfl⟩ := brow_form h1
    obtain ⟨a2, c2, rfl⟩ := brow_form h2
    rw [decide_eq_false (fun e => hab (by rw [e]))]
    have hne : ((a.length : Int) != (b.length : Int)) = true := by rw [bne_iff_ne]; omega
    clear h1 h2
    go_enter Tryz.func29, Tryz.ntmps29
    go_wp2
    go_ret
    exact ⟨rfl, Below.refl _ _⟩
end Go.Proofs.YtinabbdecmjcpaaGreatDoor.Hex
