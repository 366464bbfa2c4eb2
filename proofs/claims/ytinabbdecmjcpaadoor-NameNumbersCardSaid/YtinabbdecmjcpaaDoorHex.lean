/- Contracts of name.Hex, name.Bytes, of the reference's Hex, Hexes, Same: what each answers, by the plain functions; nothing that was there is changed. -/
import Derived.Test.YtinabbdecmjcpaaDoorNamed
import Derived.Test.YtinabbdecmjcpaaDoorHexPlain
import Derived.Laws.IdiomStrings
namespace Go.Proofs.YtinabbdecmjcpaaDoor.Hex
open Go.RowKit Go.Proofs.YtinabbdecmjcpaaDoor.Plain Go.Proofs.YtinabbdecmjcpaaDoor.Words
set_option linter.unusedVariables false

theorem info5 : (Tryd.prog.info? 5).map (fun i => (i.zero, i.size, i.bytes)) = some (some (.int .u8 0), 1, 1) := by kernel_rfl

/-- A byte as a value. -/
abbrev bv (c : UInt8) : Value := .int .u8 (c.toNat : Int)
/-- A slice of bytes in memory of the call's own. -/
def Bys (w : World) (B : Nat) (v : Value) (l : List UInt8) : Prop := w.ownsRow B 5 1 v l.length (l.map bv)
/-- A slice of bytes, wherever it lies. -/
def BRow (w : World) (v : Value) (l : List UInt8) : Prop :=
  (l = [] ∧ ∃ a cap, v = .slice a 0 cap) ∨ (∃ g o cap, v = .slice (some ⟨g, o, none⟩) l.length cap ∧ g < w.heap.size ∧ ∀ i (h : i < l.length), w.cell? ⟨g, o + i, none⟩ = some (bv l[i]))

theorem bys_row {w : World} {B : Nat} {v : Value} {l : List UInt8} (h : Bys w B v l) : BRow w v l := by
  have h' := h
  obtain ⟨h1, h2⟩ := h
  rcases h2 with ⟨rfl, h0⟩ | ⟨g, cap, cur, rfl, hB, hc, hn, hcap, hcz, ht⟩
  · exact .inl ⟨List.length_eq_zero_iff.1 h0, none, 0, rfl⟩
  · refine .inr ⟨g, 0, cap, rfl, lt_of_block hc, fun i hi => ?_⟩
    have := World.ownsRow.cellAt h' i (by simpa using hi)
    rw [Nat.zero_add]
    rw [this]
    simp [hi]

theorem brow_below {w w' : World} {v : Value} {l : List UInt8} (hb : Below w.heap.size w w') (h : BRow w v l) : BRow w' v l := by
  rcases h with h | ⟨g, o, cap, rfl, hg, hc⟩
  · exact .inl h
  · exact .inr ⟨g, o, cap, rfl, Nat.lt_of_lt_of_le hg hb.size, fun i hi => (hb.cell (p := ⟨g, o + i, none⟩) hg).trans (hc i hi)⟩

theorem addr_add (b off k : Nat) : (⟨b, off, none⟩ : Addr).add k = ⟨b, off + k, none⟩ := by
  unfold Addr.add
  split
  · simp_all
  · rfl

theorem sign_any (x : Int) (h0 : 0 ≤ x) (h : x < 16) (w : World) : Calls Tryd.prog 74 #[.int .u8 x] w fun e w' => e = .returned (bv (sg x.toNat)) ∧ w = w' := by
  have e : (bv (sg x.toNat)) = .int .u8 (if x < 10 then 48 + x else 87 + x) := by
    show Value.int .u8 _ = _
    rw [sg_toNat x.toNat (by omega)]
    congr 1
    split <;> split <;> omega
  rw [e]
  clear e
  by_cases h1 : x < 10
  · rw [if_pos h1]
    go_enter Tryd.func74, Tryd.ntmps74
    go_wp2
    go_ret
    exact ⟨rfl, rfl⟩
  · rw [if_neg h1]
    go_enter Tryd.func74, Tryd.ntmps74
    go_wp2
    go_ret
    exact ⟨by simp; omega, rfl⟩

set_option maxRecDepth 100000 in
set_option maxHeartbeats 1000000 in
theorem hex_more (l : List UInt8) (g o cap : Nat) (w : World) (h0 : 0 < l.length) (hl : l.length ≤ 1000000000000) (hg : g < w.heap.size) (hc : ∀ i (h : i < l.length), w.cell? ⟨g, o + i, none⟩ = some (bv l[i])) :
    Calls Tryd.prog 71 #[.slice (some ⟨g, o, none⟩) l.length cap] w fun e w' => e = .returned (.string (S (hexs l))) ∧ Below w.heap.size w w' := by
  obtain ⟨i0, hi, hz0, hz1, hz2⟩ := info_parts info5
  have HC := Lib.hid hc
  clear hc
  have hl0 : ((l.length : Int) == 0) = false := by rw [beq_eq_false_iff_ne]; omega
  go_enter Tryd.func71, Tryd.ntmps71
  go_wp2_with (at_make; refine wpList_make_own _ rfl _ _ 29 rfl w.heap.size 5 i0 (.int .u8 0) 1 Tryd.underlying29 hi hz0 hz1 .i64 .i64 _ (2 * l.length) rfl rfl (by omega) (by rw [hz2]; omega) (by unfold maxLen; omega) (Nat.le_refl _) ?_; intro w1 hown1 hgrow1)
  have hbel1 : Below w.heap.size w w1 := (Below.refl _ _).grown hgrow1 (Nat.le_refl _) (fun k hk => by cases hk)
  clear hgrow1
  go_loopw [3, 15] (fun v i wr => ∃ k : Nat, k ≤ l.length ∧ i = .int .i64 k ∧ v = .slice (some ⟨w.heap.size, 0, none⟩) (2 * k) (2 * l.length) ∧ wr.ownsRow w.heap.size 5 1 (.slice (some ⟨w.heap.size, 0, none⟩) (2 * k) (2 * l.length)) (2 * k) ((hexs (l.take k)).map bv) ∧ Below w.heap.size w wr) (fun _ i _ => l.length - (intOf i).toNat)
  case atStart => exact ⟨0, by omega, rfl, rfl, hown1, hbel1⟩
  case round =>
    clear hown1 hbel1
    obtain ⟨k, hk, rfl, rfl, hown, hbel⟩ := hrel
    by_cases hlt : k < l.length
    · have hx : wr.cell? ⟨g, o + k, none⟩ = some (bv l[k]) := (hbel.cell (p := ⟨g, o + k, none⟩) hg).trans (HC.out k hlt)
      have hsn : hexs (l.take (k + 1)) = hexs (l.take k) ++ two l[k] := by
        rw [List.take_succ_eq_append_getElem hlt, hexs_snoc]
      have HS := Lib.hid hsn
      clear hsn
      generalize l[k] = c at *
      have hc1 := c.toNat_lt
      have h15 := and15 c
      go_wp2_with fail
      refine (sign_any _ (by omega) (by omega) _).mono ?_
      rintro e w' ⟨rfl, rfl⟩
      go_wp2_with fail
      refine (sign_any _ (by omega) (by omega) _).mono ?_
      rintro e w' ⟨rfl, rfl⟩
      rw [show ((c.toNat : Int) / 16).toNat = c.toNat / 16 by omega, show ((c.toNat : Int) % 16).toNat = c.toNat % 16 by omega]
      generalize ha : sg (c.toNat / 16) = a at *
      generalize hb : sg (c.toNat % 16) = b at *
      have HA := Lib.hid ha
      have HB := Lib.hid hb
      clear ha hb h15
      go_wp2_with (at_builtin; refine wpList_append_fits _ rfl _ _ 29 rfl w.heap.size 5 i0 1 Tryd.underlying29 hi hz1 w.heap.size (2 * k) (2 * l.length) _ rfl (World.ownsRow.alloc hown _) ⟨wr.heap.size, 0, none⟩ 2 2 [bv a, bv b] rfl rfl (cell_two_new _ _ _ _) (fun x hx => by simp at hx; rcases hx with rfl | rfl <;> rfl) (by omega) ?_; intro w3 hown3 hgrow3)
      have hbel3 : Below w.heap.size w w3 := (hbel.alloc hbel.size _).grown hgrow3 (by have := hbel.size; simp; omega) (fun j hj => by cases hj; exact Nat.le_refl _)
      have hown4 : w3.ownsRow w.heap.size 5 1 (.slice (some ⟨w.heap.size, 0, none⟩) (2 * (k + 1)) (2 * l.length)) (2 * (k + 1)) ((hexs (l.take (k + 1))).map bv) := by
        rw [HS.out]
        have e : two c = [a, b] := by rw [← HA.out, ← HB.out]; rfl
        rw [e, show 2 * (k + 1) = 2 * k + 2 by omega]
        simpa using hown3
      clear hown3 hgrow3 hown
      go_roundw
      case rel => exact ⟨k + 1, by omega, by go_num, rfl, hown4, hbel3⟩
      case measure => simp [intOf]; omega
    · obtain rfl : k = l.length := by omega
      rw [List.take_length] at hown
      have hcv : (convert 29 9 (.slice (some ⟨w.heap.size, 0, none⟩) (2 * l.length) (2 * l.length))).run Tryd.prog wr = .ok (.string ⟨(hexs l).toArray⟩) wr := by
        have := run_convert_bytes_back (P := Tryd.prog) wr 29 9 5 ⟨w.heap.size, 0, none⟩ (2 * l.length) (hexs l) Tryd.underlying29 Tryd.underlying5 Tryd.underlying9 (fun j hj => by
          rw [addr_add, Nat.zero_add, World.ownsRow.cellAt hown j (by rw [hexs_len] at hj; omega)]
          simp [hj])
        rw [hexs_len] at this
        exact this
      clear hown
      go_wp2_with fail
      go_ret
      exact ⟨rfl, hbel⟩

/-- name.Hex, of any bytes. -/
theorem hex_any (l : List UInt8) (v : Value) (w : World) (hl : l.length ≤ 1000000000000) (h : BRow w v l) : Calls Tryd.prog 71 #[v] w fun e w' => e = .returned (.string (S (hexOf l))) ∧ Below w.heap.size w w' := by
  by_cases h0 : l.length = 0
  · obtain rfl := List.length_eq_zero_iff.1 h0
    rw [show hexOf [] = [45] from rfl]
    obtain ⟨a, cap, rfl⟩ : ∃ a cap, v = .slice a 0 cap := by
      rcases h with ⟨_, h⟩ | ⟨g, o, cap, rfl, _⟩
      · exact h
      · exact ⟨_, _, rfl⟩
    go_enter Tryd.func71, Tryd.ntmps71
    go_wp2
    go_ret
    exact ⟨rfl, Below.refl _ _⟩
  · rcases h with ⟨rfl, _⟩ | ⟨g, o, cap, rfl, hg, hc⟩
    · exact absurd rfl h0
    · rw [show hexOf l = hexs l by unfold hexOf; rw [if_neg (fun e => h0 (by rw [e]; rfl))]]
      exact hex_more l g o cap w (by omega) hl hg hc
end Go.Proofs.YtinabbdecmjcpaaDoor.Hex
