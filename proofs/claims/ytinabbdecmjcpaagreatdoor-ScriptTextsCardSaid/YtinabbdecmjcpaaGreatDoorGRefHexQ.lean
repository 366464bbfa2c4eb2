/- The reference's Hex once more: it changes nothing but the count of draws. -/
import Derived.Test.YtinabbdecmjcpaaGreatDoorG06
namespace Go.Proofs.YtinabbdecmjcpaaGreatDoor.Ev
open Go.RowKit Go.Proofs.YtinabbdecmjcpaaGreatDoor Go.Proofs.YtinabbdecmjcpaaGreatDoor.Plain Go.Proofs.YtinabbdecmjcpaaGreatDoor.Words Go.Proofs.YtinabbdecmjcpaaGreatDoor.Named Go.Proofs.YtinabbdecmjcpaaGreatDoor.Hex
set_option linter.unusedVariables false

/-- Draws alone lie between. -/
def Drawn (w w' : World) : Prop := ∃ q, w' = w.drewN q
theorem Drawn.refl (w : World) : Drawn w w := ⟨0, by simp [World.drewN_zero]⟩
theorem Drawn.cell {w w' : World} (h : Drawn w w') (p : Addr) : w'.cell? p = w.cell? p := by obtain ⟨q, rfl⟩ := h; exact World.cell?_drewN _ _ _
theorem Drawn.drewN {w w' : World} (h : Drawn w w') (k : Nat) : Drawn w (w'.drewN k) := by obtain ⟨q, rfl⟩ := h; exact ⟨q + k, by rw [World.drewN_drewN]⟩
theorem brow_drewN {w : World} {v : Value} {l : List UInt8} (h : BRow w v l) (k : Nat) : BRow (w.drewN k) v l := by
  rcases h with h | ⟨g, o, cap, rfl, hg, hc⟩
  · exact .inl h
  · exact .inr ⟨g, o, cap, rfl, by simpa using hg, fun i hi => by rw [World.cell?_drewN]; exact hc i hi⟩

set_option maxRecDepth 100000 in
set_option maxHeartbeats 1000000 in
theorem refhexq_more (l : List UInt8) (g o cap : Nat) (w : World) (h0 : 0 < l.length) (hl : l.length ≤ 1000000000000) (hg : g < w.heap.size) (hc : ∀ i (h : i < l.length), w.cell? ⟨g, o + i, none⟩ = some (bv l[i])) :
    Calls Tryz.prog 24 #[.slice (some ⟨g, o, none⟩) l.length cap] w fun e w' => e = .returned (.string (S (hexs l))) ∧ Drawn w w' := by
  have HC := Lib.hid hc
  clear hc
  have hl0 : ((l.length : Int) == 0) = false := by rw [beq_eq_false_iff_ne]; omega
  go_enter Tryz.func24, Tryz.ntmps24
  go_wp2
  go_loopw [4, 5] (fun v i wr => ∃ k : Nat, k ≤ l.length ∧ i = .int .i64 k ∧ v = .string (S (hexs (l.take k))) ∧ Drawn w wr) (fun _ i _ => l.length - (intOf i).toNat)
  case atStart => exact ⟨0, by omega, rfl, rfl, Drawn.refl _⟩
  case round =>
    obtain ⟨k, hk, rfl, rfl, hbel⟩ := hrel
    by_cases hlt : k < l.length
    · have hx : wr.cell? ⟨g, o + k, none⟩ = some (bv l[k]) := (hbel.cell _).trans (HC.out k hlt)
      have hsn : hexs (l.take (k + 1)) = hexs (l.take k) ++ two l[k] := by
        rw [List.take_succ_eq_append_getElem hlt, hexs_snoc]
      have HS := Lib.hid hsn
      clear hsn
      generalize l[k] = c at *
      have hpl : (hexs (l.take k)).length ≤ 2000000000000 := by rw [hexs_len, List.length_take]; omega
      generalize hexs (l.take k) = pre at *
      have hc1 := c.toNat_lt
      have k0 : (0 : Int) ≤ (k : Int) := by omega
      have k1 : (k : Int) < (l.length : Int) := by omega
      obtain ⟨n, hn⟩ : ∃ n : Nat, n = c.toNat := ⟨_, rfl⟩
      change wr.cell? ⟨g, o + k, none⟩ = some (.int .u8 (c.toNat : Int)) at hx
      rw [← hn] at hx hc1
      have HN := Lib.hid hn
      clear hn
      have s1 : ∀ W, (Instr.slice 9 (.string D16) (some (.int .u8 ((n : Int) / 16))) (some (.int .u8 ((n : Int) / 16 + 1))) none).run Tryz.prog W = .ok (.string (S [sg (n / 16)])) W := fun W => by
        rw [run_slice_string (P := Tryz.prog) W 9 D16 .u8 .u8 ((n : Int) / 16) ((n : Int) / 16 + 1) Tryz.underlying9 (by omega) (by omega) (by show (n : Int) / 16 + 1 ≤ 16; omega)]
        rw [show ((n : Int) / 16).toNat = n / 16 by omega, show ((n : Int) / 16 + 1).toNat = n / 16 + 1 by omega, d16 _ (by omega)]
      have s2 : ∀ W, (Instr.slice 9 (.string D16) (some (.int .u8 ((n : Int) % 16))) (some (.int .u8 ((n : Int) % 16 + 1))) none).run Tryz.prog W = .ok (.string (S [sg (n % 16)])) W := fun W => by
        rw [run_slice_string (P := Tryz.prog) W 9 D16 .u8 .u8 ((n : Int) % 16) ((n : Int) % 16 + 1) Tryz.underlying9 (by omega) (by omega) (by show (n : Int) % 16 + 1 ≤ 16; omega)]
        rw [show ((n : Int) % 16).toNat = n % 16 by omega, show ((n : Int) % 16 + 1).toNat = n % 16 + 1 by omega, d16 _ (by omega)]
      have w1 : IntKind.u8.wrap ((n : Int) / 16) = (n : Int) / 16 := IntWalk.u8_in _ (by omega)
      have w2 : IntKind.u8.wrap ((n : Int) / 16 + 1) = (n : Int) / 16 + 1 := IntWalk.u8_in _ (by omega)
      have w3 : (n : Int).tmod 16 = (n : Int) % 16 := IntWalk.rem_in _ _ (by omega)
      have w4 : IntKind.u8.wrap ((n : Int) % 16) = (n : Int) % 16 := IntWalk.u8_in _ (by omega)
      have w5 : IntKind.u8.wrap ((n : Int) % 16 + 1) = (n : Int) % 16 + 1 := IntWalk.u8_in _ (by omega)
      generalize hga : sg (n / 16) = ga at *
      generalize hgb : sg (n % 16) = gb at *
      have HA := Lib.hid hga
      have HB := Lib.hid hgb
      clear hga hgb
      go_wp2_with fail
      go_quiet (fail)
      clear w1 w2 w3 w4 w5
      go_wp2
      go_roundw
      case rel =>
        refine ⟨k + 1, by omega, by go_num, ?_, hbel.drewN _⟩
        rw [HS.out, append_S, append_S]
        have e : two c = [ga, gb] := by rw [← HA.out, ← HB.out, HN.out]; rfl
        rw [e, List.append_assoc]
        rfl
      case measure => simp [intOf]; omega
    · go_wp2_with fail
      obtain rfl : k = l.length := by omega
      rw [List.take_length]
      go_ret
      exact ⟨rfl, hbel⟩

/-- The reference's Hex, of any bytes. -/
theorem refhexq_any (l : List UInt8) (v : Value) (w : World) (hl : l.length ≤ 1000000000000) (h : BRow w v l) : Calls Tryz.prog 24 #[v] w fun e w' => e = .returned (.string (S (hexOf l))) ∧ Drawn w w' := by
  by_cases h0 : l.length = 0
  · obtain rfl := List.length_eq_zero_iff.1 h0
    rw [show hexOf [] = [45] from rfl]
    obtain ⟨a, cap, rfl⟩ : ∃ a cap, v = .slice a 0 cap := by
      rcases h with ⟨_, h⟩ | ⟨g, o, cap, rfl, _⟩
      · exact h
      · exact ⟨_, _, rfl⟩
    go_enter Tryz.func24, Tryz.ntmps24
    go_wp2
    go_ret
    exact ⟨rfl, Drawn.refl _⟩
  · rcases h with ⟨rfl, _⟩ | ⟨g, o, cap, rfl, hg, hc⟩
    · exact absurd rfl h0
    · rw [show hexOf l = hexs l by unfold hexOf; rw [if_neg (fun e => h0 (by rw [e]; rfl))]]
      exact refhexq_more l g o cap w (by omega) hl hg hc
end Go.Proofs.YtinabbdecmjcpaaGreatDoor.Ev
