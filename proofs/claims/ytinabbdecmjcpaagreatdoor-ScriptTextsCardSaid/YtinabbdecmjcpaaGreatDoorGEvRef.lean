/- Contracts of the references' Word, Pattern, digits, Same of layer 39, Tenant of layer 7, Sign and Check of layer 8. -/
import Derived.Test.YtinabbdecmjcpaaGreatDoorG02
import Derived.Test.YtinabbdecmjcpaaGreatDoorG04
import Derived.Test.YtinabbdecmjcpaaGreatDoorGChg
namespace Go.Proofs.YtinabbdecmjcpaaGreatDoor.Ev
open Go.RowKit Go.Proofs.YtinabbdecmjcpaaGreatDoor Go.Proofs.YtinabbdecmjcpaaGreatDoor.Plain Go.Proofs.YtinabbdecmjcpaaGreatDoor.Words Go.Proofs.YtinabbdecmjcpaaGreatDoor.Named Go.Proofs.YtinabbdecmjcpaaGreatDoor.Hex Go.Proofs.YtinabbdecmjcpaaGreatDoor.Number
open Go.Lib (decDigits)
set_option linter.unusedVariables false

theorem wordOf_in (j : Nat) (h1 : 1 ≤ j) (h2 : j ≤ 15) : wordOf (j : Int) = wordN j ∧ patOf (j : Int) = patN j := by
  have : inR (j : Int) = true := by simp [inR]; omega
  unfold wordOf patOf
  rw [if_pos this, if_pos this]
  exact ⟨rfl, rfl⟩
theorem wordOf_out (k : Int) (h : k < 1 ∨ 15 < k) : wordOf k = [] ∧ patOf k = [] := by
  have : inR k = false := by simp [inR]; omega
  unfold wordOf patOf
  rw [this]
  exact ⟨rfl, rfl⟩
theorem in15 (j : Nat) (h1 : 1 ≤ j) (h2 : j ≤ 15) : j = 1 ∨ j = 2 ∨ j = 3 ∨ j = 4 ∨ j = 5 ∨ j = 6 ∨ j = 7 ∨ j = 8 ∨ j = 9 ∨ j = 10 ∨ j = 11 ∨ j = 12 ∨ j = 13 ∨ j = 14 ∨ j = 15 := by omega

set_option maxRecDepth 100000 in
set_option maxHeartbeats 1000000 in
theorem word39 (k : Int) (w : World) : Calls Tryz.prog 39 #[.int .i64 k] w fun e w' => e = .returned (.string (S (wordOf k))) ∧ Below w.heap.size w w' := by
  by_cases h1 : k < 1
  · rw [(wordOf_out k (.inl h1)).1]
    go_enter Tryz.func39, Tryz.ntmps39
    go_wp2
    go_ret
    exact ⟨rfl, (Below.refl _ _).alloc (Nat.le_refl _) _⟩
  by_cases h2 : 15 < k
  · rw [(wordOf_out k (.inr h2)).1]
    go_enter Tryz.func39, Tryz.ntmps39
    go_wp2
    go_ret
    exact ⟨rfl, (Below.refl _ _).alloc (Nat.le_refl _) _⟩
  obtain ⟨j, rfl⟩ : ∃ j : Nat, k = j := ⟨k.toNat, by omega⟩
  have a1 : 1 ≤ j := by omega
  have a2 : j ≤ 15 := by omega
  rw [(wordOf_in j a1 a2).1]
  clear h1 h2
  rcases in15 j a1 a2 with rfl | rfl | rfl | rfl | rfl | rfl | rfl | rfl | rfl | rfl | rfl | rfl | rfl | rfl | rfl
  all_goals
    clear a1 a2
    go_enter Tryz.func39, Tryz.ntmps39
    go_wp2
    go_ret
    exact ⟨rfl, (Below.refl _ _).alloc (Nat.le_refl _) _⟩

set_option maxRecDepth 100000 in
set_option maxHeartbeats 1000000 in
theorem pattern39 (k : Int) (w : World) : Calls Tryz.prog 42 #[.int .i64 k] w fun e w' => e = .returned (.string (S (patOf k))) ∧ Below w.heap.size w w' := by
  by_cases h1 : k < 1
  · rw [(wordOf_out k (.inl h1)).2]
    go_enter Tryz.func42, Tryz.ntmps42
    go_wp2
    go_ret
    exact ⟨rfl, (Below.refl _ _).alloc (Nat.le_refl _) _⟩
  by_cases h2 : 15 < k
  · rw [(wordOf_out k (.inr h2)).2]
    go_enter Tryz.func42, Tryz.ntmps42
    go_wp2
    go_ret
    exact ⟨rfl, (Below.refl _ _).alloc (Nat.le_refl _) _⟩
  obtain ⟨j, rfl⟩ : ∃ j : Nat, k = j := ⟨k.toNat, by omega⟩
  have a1 : 1 ≤ j := by omega
  have a2 : j ≤ 15 := by omega
  rw [(wordOf_in j a1 a2).2]
  clear h1 h2
  rcases in15 j a1 a2 with rfl | rfl | rfl | rfl | rfl | rfl | rfl | rfl | rfl | rfl | rfl | rfl | rfl | rfl | rfl
  all_goals
    clear a1 a2
    go_enter Tryz.func42, Tryz.ntmps42
    go_wp2
    go_ret
    exact ⟨rfl, (Below.refl _ _).alloc (Nat.le_refl _) _⟩

theorem digits39 (n : Int) (w : World) (h0 : 0 ≤ n) (h1 : n ≤ 9223372036854775807) : Calls Tryz.prog 61 #[.int .i64 n] w fun e w' => e = .returned (.string (S (decDigits n.toNat))) ∧ w = w' := by
  obtain ⟨u, rfl⟩ : ∃ u : Nat, n = u := ⟨n.toNat, by omega⟩
  rw [Int.toNat_natCast]
  have H := Lib.hid (refdigits_any u w (by omega))
  go_enter Tryz.func61, Tryz.ntmps61
  go_wp2_with (go_at_call 25; refine H.out.mono ?_; rintro e w' ⟨rfl, rfl⟩)
  go_ret
  exact ⟨rfl, rfl⟩
end Go.Proofs.YtinabbdecmjcpaaGreatDoor.Ev
