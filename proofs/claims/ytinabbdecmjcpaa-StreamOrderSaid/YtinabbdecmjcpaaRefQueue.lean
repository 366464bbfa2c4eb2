/- Contracts of the reference of layer 25: Large, First, Do: a step on a list of bytes. -/
import Derived.Test.YtinabbdecmjcpaaSteps
import Derived.Deep.RegionHeld3
import Derived.Deep.DeepCutAuto
namespace Go.Proofs.Ytinabbdecmjcpaa.Queue
open Go.RowKit Go.Proofs.Ytinabbdecmjcpaa Go.Proofs.Ytinabbdecmjcpaa.Plain Go.Proofs.Ytinabbdecmjcpaa.Words Go.Proofs.Ytinabbdecmjcpaa.Hex
set_option linter.unusedVariables false

/-- What Large says: where it says no, there are few, and short ones. -/
def LargePost (v : Value) (len : Nat) (w : World) (e : Ending) (w' : World) : Prop :=
  ∃ b : Bool, e = .returned (.bool b) ∧ w = w' ∧ (b = false → len ≤ 100 ∧ ∀ g o cap, v = .slice (some ⟨g, o, none⟩) len cap → ∀ i, i < len → ∀ k n dv l, StepAt w g o i k n dv l → l.length ≤ 200)

theorem stepAt_len {w : World} {g o i : Nat} {k n k' n' : Int} {dv dv' : Value} {l l' : List UInt8} (h : StepAt w g o i k n dv l) (h' : StepAt w g o i k' n' dv' l') : l.length = l'.length := by
  have e : dv = dv' := by have := h.c2.symm.trans h'.c2; exact Option.some.inj this
  subst e
  obtain ⟨a, cap, e1⟩ := crow_form h.row
  obtain ⟨a', cap', e2⟩ := crow_form h'.row
  rw [e1] at e2
  simp only [Value.slice.injEq] at e2
  exact e2.2.1

set_option maxRecDepth 100000 in
set_option maxHeartbeats 1000000 in
theorem large_more {w : World} {len : Nat} (g o cap : Nat) (h0 : 0 < len) (hl : len ≤ maxLen) (hst : ∀ i, i < len → ∃ k n dv l, StepAt w g o i k n dv l) : Calls Try.prog 20 #[.slice (some ⟨g, o, none⟩) len cap] w (LargePost (.slice (some ⟨g, o, none⟩) len cap) len w) := by
  unfold maxLen at hl
  have HS := Lib.hid hst
  clear hst
  go_enter Try.func20, Try.ntmps20
  go_wp2
  go_loop [3] (fun i => ∃ k : Nat, k ≤ len ∧ k ≤ 100 ∧ i = .int .i64 k ∧ Hid (∀ j, j < k → ∀ kk n dv l, StepAt w g o j kk n dv l → l.length ≤ 200)) (fun i => 100 - (intOf i).toNat)
  case atStart => exact ⟨0, by omega, by omega, rfl, Lib.hid (fun j hj => absurd hj (by omega))⟩
  case round =>
    obtain ⟨k, hk, hk2, rfl, HK⟩ := hrel
    by_cases hlt : k < len
    · by_cases hlt2 : k < 100
      · obtain ⟨kk, n, dv, l, hs⟩ := HS.out k hlt
        obtain ⟨a, cap', hdv⟩ := crow_form hs.row
        have c2 := hs.c2
        have hll := hs.len
        unfold maxLen at hll
        have HST := Lib.hid hs
        rw [hdv] at c2
        clear hs hdv
        by_cases hbig : 200 < l.length
        · go_wp2_with fail
          go_ret
          exact ⟨true, rfl, rfl, fun h => by cases h⟩
        · go_wp2_with fail
          go_round
          case rel =>
            refine ⟨k + 1, by omega, by omega, by go_num, Lib.hid fun j hj kk' n' dv' l' hs' => ?_⟩
            by_cases e : j = k
            · subst e
              rw [← stepAt_len HST.out hs']
              omega
            · exact HK.out j (by omega) kk' n' dv' l' hs'
          case measure => simp [intOf]; omega
      · have hb : decide ((k : Int) < 100) = false := by simp; omega
        by_cases hbig : 100 < len
        · go_wp2_with fail
          go_ret
          exact ⟨_, rfl, rfl, fun h => by simp at h; omega⟩
        · omega
    · have hb : decide ((k : Int) < (len : Int)) = false := by simp; omega
      obtain rfl : k = len := by omega
      go_wp2_with fail
      go_ret
      refine ⟨_, rfl, rfl, fun h => ⟨by omega, fun g' o' cap' e i hi kk n dv l hs => ?_⟩⟩
      cases e
      exact HK.out i hi kk n dv l hs

theorem large_any {w : World} {v : Value} {len : Nat} (h : Steps w v len) : Calls Try.prog 20 #[v] w (LargePost v len w) := by
  rcases h with ⟨rfl, a, cap, rfl⟩ | ⟨g, o, cap, rfl, h0, hl, hg, hst⟩
  · go_enter Try.func20, Try.ntmps20
    go_wp2
    go_loop [3] (fun i => i = .int .i64 0) (fun i => 0)
    case atStart => rfl
    case round =>
      obtain rfl := hrel
      go_wp2_with fail
      go_ret
      exact ⟨_, rfl, rfl, fun h => ⟨by omega, fun g o cap' e i hi => absurd hi (by omega)⟩⟩
  · exact large_more g o cap h0 hl hst

theorem first_any (a : Option Addr) (len cap : Nat) (n : Int) (w : World) (hn : a = none → cap = 0) (hl : len ≤ cap) (hc : cap ≤ maxLen) : Calls Try.prog 56 #[.slice a len cap, .int .i64 n] w fun e w' => e = .returned (.slice a (took n len) cap) ∧ w = w' := by
  unfold maxLen at hc
  by_cases h0 : n < 0
  · have ht : took n len = 0 := by unfold took; omega
    rw [ht]
    clear ht
    cases a with
    | none =>
      obtain rfl := hn rfl
      obtain rfl : len = 0 := by omega
      go_enter Try.func56, Try.ntmps56
      go_wp2
      go_ret
      exact ⟨rfl, rfl⟩
    | some ad =>
      go_enter Try.func56, Try.ntmps56
      go_wp2
      go_ret
      exact ⟨rfl, rfl⟩
  · by_cases h1 : (len : Int) < n
    · have ht : took n len = len := by unfold took; omega
      rw [ht]
      clear ht
      cases a with
      | none =>
        obtain rfl := hn rfl
        obtain rfl : len = 0 := by omega
        go_enter Try.func56, Try.ntmps56
        go_wp2
        go_ret
        exact ⟨rfl, rfl⟩
      | some ad =>
        go_enter Try.func56, Try.ntmps56
        go_wp2
        go_ret
        exact ⟨rfl, rfl⟩
    · obtain ⟨m, rfl⟩ := Int.eq_ofNat_of_zero_le (by omega : 0 ≤ n)
      have ht : took (m : Int) len = m := by unfold took; omega
      rw [ht]
      clear ht
      cases a with
      | none =>
        obtain rfl := hn rfl
        obtain rfl : len = 0 := by omega
        obtain rfl : m = 0 := by omega
        go_enter Try.func56, Try.ntmps56
        go_wp2
        go_ret
        exact ⟨rfl, rfl⟩
      | some ad =>
        go_enter Try.func56, Try.ntmps56
        go_wp2
        go_ret
        exact ⟨rfl, rfl⟩
end Go.Proofs.Ytinabbdecmjcpaa.Queue
