/- Contracts of the references' in, only, Hexes: what each answers, by the plain functions; nothing that was there is changed. -/
import Derived.Test.YtinabbdecmjcpaaDoorRefHex
namespace Go.Proofs.YtinabbdecmjcpaaDoor.Hex
open Go.RowKit Go.Proofs.YtinabbdecmjcpaaDoor.Plain Go.Proofs.YtinabbdecmjcpaaDoor.Words Go.Proofs.YtinabbdecmjcpaaDoor.Named
set_option linter.unusedVariables false

/-- Is a byte among some? -/
def inB (l : List UInt8) (c : Nat) : Bool := l.any (fun x => x.toNat == c)
/-- Are all among some? -/
def onlyB (s l : List UInt8) : Bool := s.all (fun c => inB l c.toNat)

theorem inB_true (s : ByteArray) (c k : Nat) (h : k < s.size) (e : (s[k]'h).toNat = c) : inB (L s) c = true := by
  unfold inB
  rw [List.any_eq_true]
  exact ⟨_, List.mem_of_getElem? (get_L s k h), by simp [e]⟩
theorem inB_false (s : ByteArray) (c : Nat) (h : ∀ k (h : k < s.size), (s[k]'h).toNat ≠ c) : inB (L s) c = false := by
  unfold inB
  rw [List.any_eq_false]
  intro x hx
  obtain ⟨j, hj, rfl⟩ := List.mem_iff_getElem.1 hx
  rw [L_len] at hj
  have := h j hj
  simp only [Array.getElem_toList, beq_iff_eq]
  exact this

set_option maxRecDepth 100000 in
set_option maxHeartbeats 1000000 in
theorem in_any (s : ByteArray) (c : Nat) (w : World) (hs : s.size ≤ 1000000000000) : Calls Tryd.prog 41 #[.string s, .int .u8 (c : Int)] w fun e w' => e = .returned (.bool (inB (L s) c)) ∧ w = w' := by
  obtain ⟨R, hR⟩ : ∃ R, R = inB (L s) c := ⟨_, rfl⟩
  rw [← hR]
  have HR := Lib.hid hR
  clear hR
  go_enter Tryd.func41, Tryd.ntmps41
  go_wp2
  go_loop [5] (fun i => ∃ k : Nat, k ≤ s.size ∧ i = .int .i64 k ∧ Hid (∀ j, j < k → ∀ h : j < s.size, (s[j]'h).toNat ≠ c)) (fun i => s.size - (intOf i).toNat)
  case atStart => exact ⟨0, by omega, rfl, Lib.hid (fun j hj => absurd hj (by omega))⟩
  case round =>
    obtain ⟨k, hk, rfl, HN⟩ := hrel
    by_cases hlt : k < s.size
    · by_cases hc : (s[k]'hlt).toNat = c
      · have hcb : (((s[k]'hlt).toNat : Int) == (c : Int)) = true := by rw [beq_iff_eq]; omega
        have HC := Lib.hid hc
        clear hc
        go_wp2_with fail
        go_ret
        have : R = true := by rw [HR.out]; exact inB_true s c k hlt HC.out
        exact ⟨by rw [this]; rfl, rfl⟩
      · have hcb : (((s[k]'hlt).toNat : Int) == (c : Int)) = false := by rw [beq_eq_false_iff_ne]; omega
        have HC := Lib.hid hc
        clear hc
        go_wp2_with fail
        go_round
        case rel =>
          refine ⟨k + 1, by omega, by go_num, Lib.hid fun j hj h => ?_⟩
          by_cases e : j = k
          · subst e; exact HC.out
          · exact HN.out j (by omega) h
        case measure => simp [intOf]; omega
    · have he : R = false := by rw [HR.out]; exact inB_false s c fun j h => HN.out j (by omega) h
      have HE := Lib.hid he
      clear he
      go_wp2_with fail
      go_ret
      exact ⟨by rw [HE.out]; rfl, rfl⟩

set_option maxRecDepth 100000 in
set_option maxHeartbeats 1000000 in
theorem only_any (s l : ByteArray) (w : World) (hs : s.size ≤ 1000000000000) (hl : l.size ≤ 1000000000000) : Calls Tryd.prog 22 #[.string s, .string l] w fun e w' => e = .returned (.bool (onlyB (L s) (L l))) ∧ w = w' := by
  obtain ⟨R, hR⟩ : ∃ R, R = onlyB (L s) (L l) := ⟨_, rfl⟩
  rw [← hR]
  have HR := Lib.hid hR
  clear hR
  go_enter Tryd.func22, Tryd.ntmps22
  go_wp2
  go_loopw [5] (fun i wr => ∃ k : Nat, k ≤ s.size ∧ i = .int .i64 k ∧ w = wr ∧ Hid (∀ j, j < k → ∀ h : j < s.size, inB (L l) (s[j]'h).toNat = true)) (fun i _ => s.size - (intOf i).toNat)
  case atStart => exact ⟨0, by omega, rfl, rfl, Lib.hid (fun j hj => absurd hj (by omega))⟩
  case round =>
    obtain ⟨k, hk, rfl, rfl, HN⟩ := hrel
    by_cases hlt : k < s.size
    · have hin := Lib.hid (in_any l (s[k]'hlt).toNat w hl)
      cases hb : inB (L l) (s[k]'hlt).toNat
      · have HB := Lib.hid hb
        clear hb
        go_wp2_with (go_at_call 41; refine hin.out.mono ?_; rintro e w' ⟨rfl, rfl⟩; rw [HB.out])
        go_ret
        have : R = false := by
          rw [HR.out]
          unfold onlyB
          rw [Bool.eq_false_iff]
          intro e
          rw [List.all_eq_true] at e
          have := e _ (List.mem_of_getElem? (get_L s k hlt))
          rw [HB.out] at this
          cases this
        exact ⟨by rw [this]; rfl, rfl⟩
      · have HB := Lib.hid hb
        clear hb
        go_wp2_with (go_at_call 41; refine hin.out.mono ?_; rintro e w' ⟨rfl, rfl⟩; rw [HB.out])
        go_roundw
        case rel =>
          refine ⟨k + 1, by omega, by go_num, by trivial, Lib.hid fun j hj h => ?_⟩
          by_cases e : j = k
          · subst e; exact HB.out
          · exact HN.out j (by omega) h
        case measure => simp [intOf]; omega
    · have he : R = true := by
        rw [HR.out]
        unfold onlyB
        rw [List.all_eq_true]
        intro x hx
        obtain ⟨j, hj, rfl⟩ := List.mem_iff_getElem.1 hx
        rw [L_len] at hj
        exact HN.out j (by omega) hj
      have HE := Lib.hid he
      clear he
      go_wp2_with fail
      go_ret
      exact ⟨by rw [HE.out]; rfl, rfl⟩

theorem only_hex (l : List UInt8) : onlyB l (L D16) = l.all (fun c => (nib c.toNat).isSome) := by
  unfold onlyB
  have h : ∀ n : Fin 256, inB (L D16) (n : Nat) = (nib (n : Nat)).isSome := by decide +kernel
  congr 1
  funext c
  exact h ⟨c.toNat, c.toNat_lt⟩

/-- The reference's Hexes, of any text. -/
theorem hexes_any (s : ByteArray) (w : World) (hs : s.size ≤ 1000000000000) : Calls Tryd.prog 60 #[.string s] w fun e w' => e = .returned (.bool (hexesB (L s))) ∧ w = w' := by
  by_cases h45 : L s = [45]
  · have e : s = ⟨#[45]⟩ := by rw [← S_L s, h45]
    subst e
    rw [show hexesB (L ⟨#[45]⟩) = true by decide]
    clear h45
    go_enter Tryd.func60, Tryd.ntmps60
    go_wp2
    go_ret
    exact ⟨rfl, rfl⟩
  · have hd := dash_no s h45
    have e0 : hexesB (L s) = (decide (0 < s.size) && decide (s.size % 2 = 0) && onlyB (L s) (L D16)) := by
      unfold hexesB
      rw [decide_eq_false h45, L_len, only_hex]
      simp
    rw [e0]
    have ho := Lib.hid (only_any s D16 w hs (by decide))
    clear e0 h45
    generalize onlyB (L s) (L D16) = R at *
    by_cases h0 : 0 < s.size
    · by_cases h2 : s.size % 2 = 0
      · rw [decide_eq_true h0, decide_eq_true h2, Bool.true_and, Bool.true_and]
        have hb : (((s.size : Int) % 2) == 0) = true := by rw [beq_iff_eq]; omega
        clear h2
        cases R
        all_goals
          go_enter Tryd.func60, Tryd.ntmps60
          go_wp2_with (go_at_call 22; refine ho.out.mono ?_; rintro e w' ⟨rfl, rfl⟩)
          go_ret
          exact ⟨rfl, rfl⟩
      · rw [decide_eq_false h2, Bool.and_false, Bool.false_and]
        have hb : (((s.size : Int) % 2) == 0) = false := by rw [beq_eq_false_iff_ne]; omega
        clear h2
        go_enter Tryd.func60, Tryd.ntmps60
        go_wp2_with (go_at_call 22; refine ho.out.mono ?_; rintro e w' ⟨rfl, rfl⟩)
        go_ret
        exact ⟨rfl, rfl⟩
    · rw [decide_eq_false h0, Bool.false_and, Bool.false_and]
      go_enter Tryd.func60, Tryd.ntmps60
      go_wp2_with (go_at_call 22; refine ho.out.mono ?_; rintro e w' ⟨rfl, rfl⟩)
      go_ret
      exact ⟨rfl, rfl⟩
end Go.Proofs.YtinabbdecmjcpaaDoor.Hex
