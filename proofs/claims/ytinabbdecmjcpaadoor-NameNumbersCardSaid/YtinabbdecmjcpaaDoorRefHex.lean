/- Contracts of the references' Hex, Same, in, only, Hexes: what each answers, by the plain functions; nothing that was there is changed. -/
import Derived.Test.YtinabbdecmjcpaaDoorBytes
namespace Go.Proofs.YtinabbdecmjcpaaDoor.Hex
open Go.RowKit Go.Proofs.YtinabbdecmjcpaaDoor.Plain Go.Proofs.YtinabbdecmjcpaaDoor.Words Go.Proofs.YtinabbdecmjcpaaDoor.Named
set_option linter.unusedVariables false

/-- The sixteen digits. -/
abbrev D16 : ByteArray := ⟨#[48, 49, 50, 51, 52, 53, 54, 55, 56, 57, 97, 98, 99, 100, 101, 102]⟩
theorem d16 (n : Nat) (h : n < 16) : D16.extract n (n + 1) = S [sg n] := by
  have : ∀ a : Fin 16, (D16.extract (a : Nat) ((a : Nat) + 1)).data = (S [sg (a : Nat)]).data := by decide +kernel
  exact ByteArray.ext (this ⟨n, h⟩)

set_option maxRecDepth 100000 in
set_option maxHeartbeats 1000000 in
theorem refhex_more (l : List UInt8) (g o cap : Nat) (w : World) (h0 : 0 < l.length) (hl : l.length ≤ 1000000000000) (hg : g < w.heap.size) (hc : ∀ i (h : i < l.length), w.cell? ⟨g, o + i, none⟩ = some (bv l[i])) :
    Calls Tryd.prog 43 #[.slice (some ⟨g, o, none⟩) l.length cap] w fun e w' => e = .returned (.string (S (hexs l))) ∧ Below w.heap.size w w' := by
  have HC := Lib.hid hc
  clear hc
  have hl0 : ((l.length : Int) == 0) = false := by rw [beq_eq_false_iff_ne]; omega
  go_enter Tryd.func43, Tryd.ntmps43
  go_wp2
  go_loopw [4, 5] (fun v i wr => ∃ k : Nat, k ≤ l.length ∧ i = .int .i64 k ∧ v = .string (S (hexs (l.take k))) ∧ Below w.heap.size w wr) (fun _ i _ => l.length - (intOf i).toNat)
  case atStart => exact ⟨0, by omega, rfl, rfl, Below.refl _ _⟩
  case round =>
    obtain ⟨k, hk, rfl, rfl, hbel⟩ := hrel
    by_cases hlt : k < l.length
    · have hx : wr.cell? ⟨g, o + k, none⟩ = some (bv l[k]) := (hbel.cell (p := ⟨g, o + k, none⟩) hg).trans (HC.out k hlt)
      have hsn : hexs (l.take (k + 1)) = hexs (l.take k) ++ two l[k] := by
        rw [List.take_succ_eq_append_getElem hlt, hexs_snoc]
      have HS := Lib.hid hsn
      clear hsn
      generalize l[k] = c at *
      have hpl : (hexs (l.take k)).length ≤ 2000000000000 := by rw [hexs_len, List.length_take]; omega
      generalize hexs (l.take k) = pre at *
      have hc1 := c.toNat_lt
      have k0 : (0 : Int) ≤ (k : Int) := by omega
      have k1 : (k : Int) < (l.length : Int) := by omega
      obtain ⟨n, hn⟩ : ∃ n : Nat, n = c.toNat := ⟨_, rfl⟩
      change wr.cell? ⟨g, o + k, none⟩ = some (.int .u8 (c.toNat : Int)) at hx
      rw [← hn] at hx hc1
      have HN := Lib.hid hn
      clear hn
      have s1 : ∀ W, (Instr.slice 9 (.string D16) (some (.int .u8 ((n : Int) / 16))) (some (.int .u8 ((n : Int) / 16 + 1))) none).run Tryd.prog W = .ok (.string (S [sg (n / 16)])) W := fun W => by
        rw [run_slice_string (P := Tryd.prog) W 9 D16 .u8 .u8 ((n : Int) / 16) ((n : Int) / 16 + 1) Tryd.underlying9 (by omega) (by omega) (by show (n : Int) / 16 + 1 ≤ 16; omega)]
        rw [show ((n : Int) / 16).toNat = n / 16 by omega, show ((n : Int) / 16 + 1).toNat = n / 16 + 1 by omega, d16 _ (by omega)]
      have s2 : ∀ W, (Instr.slice 9 (.string D16) (some (.int .u8 ((n : Int) % 16))) (some (.int .u8 ((n : Int) % 16 + 1))) none).run Tryd.prog W = .ok (.string (S [sg (n % 16)])) W := fun W => by
        rw [run_slice_string (P := Tryd.prog) W 9 D16 .u8 .u8 ((n : Int) % 16) ((n : Int) % 16 + 1) Tryd.underlying9 (by omega) (by omega) (by show (n : Int) % 16 + 1 ≤ 16; omega)]
        rw [show ((n : Int) % 16).toNat = n % 16 by omega, show ((n : Int) % 16 + 1).toNat = n % 16 + 1 by omega, d16 _ (by omega)]
      have w1 : IntKind.u8.wrap ((n : Int) / 16) = (n : Int) / 16 := IntWalk.u8_in _ (by omega)
      have w2 : IntKind.u8.wrap ((n : Int) / 16 + 1) = (n : Int) / 16 + 1 := IntWalk.u8_in _ (by omega)
      have w3 : (n : Int).tmod 16 = (n : Int) % 16 := IntWalk.rem_in _ _ (by omega)
      have w4 : IntKind.u8.wrap ((n : Int) % 16) = (n : Int) % 16 := IntWalk.u8_in _ (by omega)
      have w5 : IntKind.u8.wrap ((n : Int) % 16 + 1) = (n : Int) % 16 + 1 := IntWalk.u8_in _ (by omega)
      generalize hga : sg (n / 16) = ga at *
      generalize hgb : sg (n % 16) = gb at *
      have HA := Lib.hid hga
      have HB := Lib.hid hgb
      clear hga hgb
      go_wp2_with fail
      go_quiet (fail)
      clear w1 w2 w3 w4 w5
      go_wp2
      go_roundw
      case rel =>
        refine ⟨k + 1, by omega, by go_num, ?_, below_drewN hbel _⟩
        rw [HS.out, append_S, append_S]
        have e : two c = [ga, gb] := by rw [← HA.out, ← HB.out, HN.out]; rfl
        rw [e, List.append_assoc]
        rfl
      case measure => simp [intOf]; omega
    · go_wp2_with fail
      obtain rfl : k = l.length := by omega
      rw [List.take_length]
      go_ret
      exact ⟨rfl, hbel⟩

/-- The reference's Hex, of any bytes. -/
theorem refhex_any (l : List UInt8) (v : Value) (w : World) (hl : l.length ≤ 1000000000000) (h : BRow w v l) : Calls Tryd.prog 43 #[v] w fun e w' => e = .returned (.string (S (hexOf l))) ∧ Below w.heap.size w w' := by
  by_cases h0 : l.length = 0
  · obtain rfl := List.length_eq_zero_iff.1 h0
    rw [show hexOf [] = [45] from rfl]
    obtain ⟨a, cap, rfl⟩ : ∃ a cap, v = .slice a 0 cap := by
      rcases h with ⟨_, h⟩ | ⟨g, o, cap, rfl, _⟩
      · exact h
      · exact ⟨_, _, rfl⟩
    go_enter Tryd.func43, Tryd.ntmps43
    go_wp2
    go_ret
    exact ⟨rfl, Below.refl _ _⟩
  · rcases h with ⟨rfl, _⟩ | ⟨g, o, cap, rfl, hg, hc⟩
    · exact absurd rfl h0
    · rw [show hexOf l = hexs l by unfold hexOf; rw [if_neg (fun e => h0 (by rw [e]; rfl))]]
      exact refhex_more l g o cap w (by omega) hl hg hc

/-- Two lists of bytes agree so far. -/
def Agree (a b : List UInt8) (k : Nat) : Prop := ∀ i, i < k → a[i]? = b[i]?

set_option maxRecDepth 100000 in
set_option maxHeartbeats 1000000 in
theorem same_more (a b : List UInt8) (w : World) (g1 o1 c1 g2 o2 c2 : Nat) (hab : a.length = b.length) (hl : a.length ≤ 1000000000000) (hg1 : g1 < w.heap.size) (hg2 : g2 < w.heap.size) (h1 : ∀ i (h : i < a.length), w.cell? ⟨g1, o1 + i, none⟩ = some (bv a[i])) (h2 : ∀ i (h : i < b.length), w.cell? ⟨g2, o2 + i, none⟩ = some (bv b[i])) :
    Calls Tryd.prog 34 #[.slice (some ⟨g1, o1, none⟩) a.length c1, .slice (some ⟨g2, o2, none⟩) a.length c2] w fun e w' => e = .returned (.bool (decide (a = b))) ∧ Below w.heap.size w w' := by
  have H1 := Lib.hid h1
  have H2 := Lib.hid h2
  have HAB := Lib.hid hab
  obtain ⟨R, hR⟩ : ∃ R, R = decide (a = b) := ⟨_, rfl⟩
  rw [← hR]
  have HR := Lib.hid hR
  clear h1 h2 hab hR
  have hne : ((a.length : Int) != (a.length : Int)) = false := by simp
  go_enter Tryd.func34, Tryd.ntmps34
  go_wp2
  go_loopw [5] (fun i wr => ∃ k : Nat, k ≤ a.length ∧ i = .int .i64 k ∧ Below w.heap.size w wr ∧ Hid (Agree a b k)) (fun i _ => a.length - (intOf i).toNat)
  case atStart => exact ⟨0, by omega, rfl, Below.refl _ _, Lib.hid (fun i hi => absurd hi (by omega))⟩
  case round =>
    obtain ⟨k, hk, rfl, hbel, HG⟩ := hrel
    by_cases hlt : k < a.length
    · have hlt2 : k < b.length := by have := HAB.out; omega
      have a1 : wr.cell? ⟨g1, o1 + k, none⟩ = some (.int .u8 ((a[k]'hlt).toNat : Int)) := (hbel.cell (p := ⟨g1, o1 + k, none⟩) hg1).trans (H1.out k hlt)
      have a2 : wr.cell? ⟨g2, o2 + k, none⟩ = some (.int .u8 ((b[k]'hlt2).toNat : Int)) := (hbel.cell (p := ⟨g2, o2 + k, none⟩) hg2).trans (H2.out k hlt2)
      have k0 : (0 : Int) ≤ (k : Int) := by omega
      have k1 : (k : Int) < (a.length : Int) := by omega
      by_cases hx : a[k]'hlt = b[k]'hlt2
      · rw [← hx] at a2
        have HX := Lib.hid hx
        clear hx
        generalize (a[k]'hlt).toNat = x at a1 a2
        have hxx : ((x : Int) != (x : Int)) = false := by simp
        go_wp2_with fail
        go_quiet (fail)
        go_wp2
        go_roundw
        case rel =>
          refine ⟨k + 1, by omega, by go_num, below_drewN hbel _, Lib.hid fun i hi => ?_⟩
          by_cases e : i = k
          · subst e
            rw [List.getElem?_eq_getElem hlt, List.getElem?_eq_getElem hlt2, HX.out]
          · exact HG.out i (by omega)
        case measure => simp [intOf]; omega
      · have hxx : (((a[k]'hlt).toNat : Int) != ((b[k]'hlt2).toNat : Int)) = true := by
          rw [bne_iff_ne]
          intro e
          exact hx (UInt8.toNat_inj.1 (by omega))
        have HX := Lib.hid hx
        clear hx
        generalize (a[k]'hlt).toNat = x at *
        generalize (b[k]'hlt2).toNat = y at *
        go_wp2_with fail
        go_quiet (fail)
        go_wp2
        go_ret
        refine ⟨?_, below_drewN hbel _⟩
        have : R = false := by
          rw [HR.out, decide_eq_false_iff_not]
          intro e
          subst e
          exact HX.out rfl
        rw [this]; rfl
    · have he : R = true := by
        rw [HR.out, decide_eq_true_eq]
        apply List.ext_getElem?
        intro i
        by_cases h : i < a.length
        · exact HG.out i (by omega)
        · rw [List.getElem?_eq_none (by omega), List.getElem?_eq_none (by have := HAB.out; omega)]
      have HE := Lib.hid he
      clear he
      go_wp2_with fail
      go_ret
      exact ⟨by rw [HE.out]; rfl, hbel⟩

theorem brow_form {w : World} {v : Value} {l : List UInt8} (h : BRow w v l) : ∃ a cap, v = .slice a l.length cap := by
  rcases h with ⟨rfl, h⟩ | ⟨g, o, cap, rfl, _⟩
  · exact h
  · exact ⟨_, _, rfl⟩

/-- The reference's Same, of any two lists of bytes. -/
theorem same_any (a b : List UInt8) (v1 v2 : Value) (w : World) (hl : a.length ≤ 1000000000000) (hl2 : b.length ≤ 1000000000000) (h1 : BRow w v1 a) (h2 : BRow w v2 b) : Calls Tryd.prog 34 #[v1, v2] w fun e w' => e = .returned (.bool (decide (a = b))) ∧ Below w.heap.size w w' := by
  by_cases hab : a.length = b.length
  · by_cases h0 : a.length = 0
    · obtain ⟨a1, c1, rfl⟩ := brow_form h1
      obtain ⟨a2, c2, rfl⟩ := brow_form h2
      obtain rfl := List.length_eq_zero_iff.1 h0
      obtain rfl := List.length_eq_zero_iff.1 (hab ▸ h0)
      clear h1 h2
      simp only [List.length_nil, decide_true]
      go_enter Tryd.func34, Tryd.ntmps34
      go_wp2
      go_loopw [5] (fun i wr => i = .int .i64 0 ∧ w = wr) (fun i _ => 0)
      case atStart => exact ⟨rfl, rfl⟩
      case round =>
        obtain ⟨rfl, rfl⟩ := hrel
        go_wp2_with fail
        go_ret
        exact ⟨rfl, Below.refl _ _⟩
    · rcases h1 with ⟨rfl, _⟩ | ⟨g, o, cap, rfl, hg, hc⟩
      · exact absurd rfl h0
      · rcases h2 with ⟨rfl, _⟩ | ⟨g', o', cap', rfl, hg', hc'⟩
        · exact absurd hab h0
        · rw [← hab]
          exact same_more a b w g o cap g' o' cap' hab hl hg hg' hc hc'
  · obtain ⟨a1, c1, rfl⟩ := brow_form h1
    obtain ⟨a2, c2, rfl⟩ := brow_form h2
    rw [decide_eq_false (fun e => hab (by rw [e]))]
    have hne : ((a.length : Int) != (b.length : Int)) = true := by rw [bne_iff_ne]; omega
    clear h1 h2
    go_enter Tryd.func34, Tryd.ntmps34
    go_wp2
    go_ret
    exact ⟨rfl, Below.refl _ _⟩
end Go.Proofs.YtinabbdecmjcpaaDoor.Hex
