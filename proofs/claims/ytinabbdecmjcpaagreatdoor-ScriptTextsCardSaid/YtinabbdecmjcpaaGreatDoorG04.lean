/- Contracts of the references' in, only, Hexes: what each answers, by the plain functions; nothing that was there is changed. Contracts of the reference's Digits and Number of layer 7. -/
import Derived.Test.YtinabbdecmjcpaaGreatDoorG03
import Derived.Test.YtinabbdecmjcpaaGreatDoorG01
namespace Go.Proofs.YtinabbdecmjcpaaGreatDoor.Hex
open Go.RowKit Go.Proofs.YtinabbdecmjcpaaGreatDoor.Plain Go.Proofs.YtinabbdecmjcpaaGreatDoor.Words Go.Proofs.YtinabbdecmjcpaaGreatDoor.Named
set_option linter.unusedVariables false

/-- Is a byte among some? -/
def inB (l : List UInt8) (c : Nat) : Bool := l.any (fun x => x.toNat == c)
/-- Are all among some? -/
def onlyB (s l : List UInt8) : Bool := s.all (fun c => inB l c.toNat)

theorem inB_true (s : ByteArray) (c k : Nat) (h : k < s.size) (e : (s[k]'h).toNat = c) : inB (L s) c = true := by
  unfold inB
  rw [List.any_eq_true]
  exact ⟨_, List.mem_of_getElem? (get_L s k h), by simp [e]⟩
theorem inB_false (s : ByteArray) (c : Nat) (h : ∀ k (h : k < s.size), (s[k]'h).toNat ≠ c) : inB (L s) c = false := by
  unfold inB
  rw [List.any_eq_false]
  intro x hx
  obtain ⟨j, hj, rfl⟩ := List.mem_iff_getElem.1 hx
  rw [L_len] at hj
  have := h j hj
  simp only [Array.getElem_toList, beq_iff_eq]
  exact this

set_option maxRecDepth 100000 in
set_option maxHeartbeats 1000000 in
theorem in_any (s : ByteArray) (c : Nat) (w : World) (hs : s.size ≤ 1000000000000) : Calls Tryz.prog 93 #[.string s, .int .u8 (c : Int)] w fun e w' => e = .returned (.bool (inB (L s) c)) ∧ w = w' := by
  obtain ⟨R, hR⟩ : ∃ R, R = inB (L s) c := ⟨_, rfl⟩
  rw [← hR]
  have HR := Lib.hid hR
  clear hR
  go_enter Tryz.func93, Tryz.ntmps93
  go_wp2
  go_loop [5] (fun i => ∃ k : Nat, k ≤ s.size ∧ i = .int .i64 k ∧ Hid (∀ j, j < k → ∀ h : j < s.size, (s[j]'h).toNat ≠ c)) (fun i => s.size - (intOf i).toNat)
  case atStart => exact ⟨0, by omega, rfl, Lib.hid (fun j hj => absurd hj (by omega))⟩
  case round =>
    obtain ⟨k, hk, rfl, HN⟩ := hrel
    by_cases hlt : k < s.size
    · by_cases hc : (s[k]'hlt).toNat = c
      · have hcb : (((s[k]'hlt).toNat : Int) == (c : Int)) = true := by rw [beq_iff_eq]; omega
        have HC := Lib.hid hc
        clear hc
        go_wp2_with fail
        go_ret
        have : R = true := by rw [HR.out]; exact inB_true s c k hlt HC.out
        exact ⟨by rw [this]; rfl, rfl⟩
      · have hcb : (((s[k]'hlt).toNat : Int) == (c : Int)) = false := by rw [beq_eq_false_iff_ne]; omega
        have HC := Lib.hid hc
        clear hc
        go_wp2_with fail
        go_round
        case rel =>
          refine ⟨k + 1, by omega, by go_num, Lib.hid fun j hj h => ?_⟩
          by_cases e : j = k
          · subst e; exact HC.out
          · exact HN.out j (by omega) h
        case measure => simp [intOf]; omega
    · have he : R = false := by rw [HR.out]; exact inB_false s c fun j h => HN.out j (by omega) h
      have HE := Lib.hid he
      clear he
      go_wp2_with fail
      go_ret
      exact ⟨by rw [HE.out]; rfl, rfl⟩

set_option maxRecDepth 100000 in
set_option maxHeartbeats 1000000 in
theorem only_any (s l : ByteArray) (w : World) (hs : s.size ≤ 1000000000000) (hl : l.size ≤ 1000000000000) : Calls Tryz.prog 82 #[.string s, .string l] w fun e w' => e = .returned (.bool (onlyB (L s) (L l))) ∧ w = w' := by
  obtain ⟨R, hR⟩ : ∃ R, R = onlyB (L s) (L l) := ⟨_, rfl⟩
  rw [← hR]
  have HR := Lib.hid hR
  clear hR
  go_enter Tryz.func82, Tryz.ntmps82
  go_wp2
  go_loopw [5] (fun i wr => ∃ k : Nat, k ≤ s.size ∧ i = .int .i64 k ∧ w = wr ∧ Hid (∀ j, j < k → ∀ h : j < s.size, inB (L l) (s[j]'h).toNat = true)) (fun i _ => s.size - (intOf i).toNat)
  case atStart => exact ⟨0, by omega, rfl, rfl, Lib.hid (fun j hj => absurd hj (by omega))⟩
  case round =>
    obtain ⟨k, hk, rfl, rfl, HN⟩ := hrel
    by_cases hlt : k < s.size
    · have hin := Lib.hid (in_any l (s[k]'hlt).toNat w hl)
      cases hb : inB (L l) (s[k]'hlt).toNat
      · have HB := Lib.hid hb
        clear hb
        go_wp2_with (go_at_call 93; refine hin.out.mono ?_; rintro e w' ⟨rfl, rfl⟩; rw [HB.out])
        go_ret
        have : R = false := by
          rw [HR.out]
          unfold onlyB
          rw [Bool.eq_false_iff]
          intro e
          rw [List.all_eq_true] at e
          have := e _ (List.mem_of_getElem? (get_L s k hlt))
          rw [HB.out] at this
          cases this
        exact ⟨by rw [this]; rfl, rfl⟩
      · have HB := Lib.hid hb
        clear hb
        go_wp2_with (go_at_call 93; refine hin.out.mono ?_; rintro e w' ⟨rfl, rfl⟩; rw [HB.out])
        go_roundw
        case rel =>
          refine ⟨k + 1, by omega, by go_num, by trivial, Lib.hid fun j hj h => ?_⟩
          by_cases e : j = k
          · subst e; exact HB.out
          · exact HN.out j (by omega) h
        case measure => simp [intOf]; omega
    · have he : R = true := by
        rw [HR.out]
        unfold onlyB
        rw [List.all_eq_true]
        intro x hx
        obtain ⟨j, hj, rfl⟩ := List.mem_iff_getElem.1 hx
        rw [L_len] at hj
        exact HN.out j (by omega) hj
      have HE := Lib.hid he
      clear he
      go_wp2_with fail
      go_ret
      exact ⟨by rw [HE.out]; rfl, rfl⟩

theorem only_hex (l : List UInt8) : onlyB l (L D16) = l.all (fun c => (nib c.toNat).isSome) := by
  unfold onlyB
  have h : ∀ n : Fin 256, inB (L D16) (n : Nat) = (nib (n : Nat)).isSome := by decide +kernel
  congr 1
  funext c
  exact h ⟨c.toNat, c.toNat_lt⟩

/-- The reference's Hexes, of any text. -/
theorem hexes_any (s : ByteArray) (w : World) (hs : s.size ≤ 1000000000000) : Calls Tryz.prog 85 #[.string s] w fun e w' => e = .returned (.bool (hexesB (L s))) ∧ w = w' := by
  by_cases h45 : L s = [45]
  · have e : s = ⟨#[45]⟩ := by rw [← S_L s, h45]
    subst e
    rw [show hexesB (L ⟨#[45]⟩) = true by decide]
    clear h45
    go_enter Tryz.func85, Tryz.ntmps85
    go_wp2
    go_ret
    exact ⟨rfl, rfl⟩
  · have hd := dash_no s h45
    have e0 : hexesB (L s) = (decide (0 < s.size) && decide (s.size % 2 = 0) && onlyB (L s) (L D16)) := by
      unfold hexesB
      rw [decide_eq_false h45, L_len, only_hex]
      simp
    rw [e0]
    have ho := Lib.hid (only_any s D16 w hs (by decide))
    clear e0 h45
    generalize onlyB (L s) (L D16) = R at *
    by_cases h0 : 0 < s.size
    · by_cases h2 : s.size % 2 = 0
      · rw [decide_eq_true h0, decide_eq_true h2, Bool.true_and, Bool.true_and]
        have hb : (((s.size : Int) % 2) == 0) = true := by rw [beq_iff_eq]; omega
        clear h2
        cases R
        all_goals
          go_enter Tryz.func85, Tryz.ntmps85
          go_wp2_with (go_at_call 82; refine ho.out.mono ?_; rintro e w' ⟨rfl, rfl⟩)
          go_ret
          exact ⟨rfl, rfl⟩
      · rw [decide_eq_false h2, Bool.and_false, Bool.false_and]
        have hb : (((s.size : Int) % 2) == 0) = false := by rw [beq_eq_false_iff_ne]; omega
        clear h2
        go_enter Tryz.func85, Tryz.ntmps85
        go_wp2_with (go_at_call 82; refine ho.out.mono ?_; rintro e w' ⟨rfl, rfl⟩)
        go_ret
        exact ⟨rfl, rfl⟩
    · rw [decide_eq_false h0, Bool.false_and, Bool.false_and]
      go_enter Tryz.func85, Tryz.ntmps85
      go_wp2_with (go_at_call 82; refine ho.out.mono ?_; rintro e w' ⟨rfl, rfl⟩)
      go_ret
      exact ⟨rfl, rfl⟩
end Go.Proofs.YtinabbdecmjcpaaGreatDoor.Hex

namespace Go.Proofs.YtinabbdecmjcpaaGreatDoor.Number
open Go.RowKit Go.Proofs.YtinabbdecmjcpaaGreatDoor Go.Proofs.YtinabbdecmjcpaaGreatDoor.Plain Go.Proofs.YtinabbdecmjcpaaGreatDoor.Words Go.Proofs.YtinabbdecmjcpaaGreatDoor.Named Go.Proofs.YtinabbdecmjcpaaGreatDoor.Hex
open Go.Lib (decDigits nDigits)
set_option linter.unusedVariables false

/-- The ten digits. -/
abbrev D10 : ByteArray := ⟨#[48, 49, 50, 51, 52, 53, 54, 55, 56, 57]⟩
theorem d10 (n : Nat) (h : n < 10) : D10.extract n (n + 1) = S [UInt8.ofNat (48 + n)] := by
  have : ∀ a : Fin 10, (D10.extract (a : Nat) ((a : Nat) + 1)).data = (S [UInt8.ofNat (48 + (a : Nat))]).data := by decide +kernel
  exact ByteArray.ext (this ⟨n, h⟩)
theorem only_dig (l : List UInt8) : onlyB l (L D10) = digs l := by
  unfold onlyB digs
  have h : ∀ n : Fin 256, inB (L D10) (n : Nat) = digitB ((n : Nat) : Int) := by decide +kernel
  congr 1
  funext c
  exact h ⟨c.toNat, c.toNat_lt⟩

set_option maxRecDepth 100000 in
/-- The reference's Digits. -/
theorem refdigits_any (n : Nat) (w : World) (hn : n < 18446744073709551616) : Calls Tryz.prog 25 #[.int .u64 (n : Int)] w fun e w' => e = .returned (.string (S (decDigits n))) ∧ w = w' := by
  have hlen := dec_len n hn
  obtain ⟨R, hR⟩ : ∃ R, R = decDigits n := ⟨_, rfl⟩
  rw [← hR] at hlen ⊢
  have HR := Lib.hid hR
  clear hR
  go_enter Tryz.func25, Tryz.ntmps25
  go_wp2
  go_loop [3, 0] (fun t x => ∃ (m : Nat) (l : List UInt8), x = .int .u64 (m : Int) ∧ t = .string (S l) ∧ m < 18446744073709551616 ∧ l.length ≤ 20 ∧ Hid (R = decDigits m ++ l)) (fun _ x => (intOf x).toNat)
  case atStart => exact ⟨n, [], rfl, rfl, hn, by simp, Lib.hid (by rw [HR.out]; simp)⟩
  case round =>
    obtain ⟨m, l, rfl, rfl, hm, hl, HI⟩ := hrel
    have s1 : ∀ W, (Instr.slice 9 (.string D10) (some (.int .u64 ((m : Int) % 10))) (some (.int .u64 ((m : Int) % 10 + 1))) none).run Tryz.prog W = .ok (.string (S [UInt8.ofNat (48 + m % 10)])) W := fun W => by
      rw [run_slice_string (P := Tryz.prog) W 9 D10 .u64 .u64 ((m : Int) % 10) ((m : Int) % 10 + 1) Tryz.underlying9 (by omega) (by omega) (by show (m : Int) % 10 + 1 ≤ 10; omega)]
      rw [show ((m : Int) % 10).toNat = m % 10 by omega, show ((m : Int) % 10 + 1).toNat = m % 10 + 1 by omega, d10 _ (by omega)]
    generalize hga : UInt8.ofNat (48 + m % 10) = ga at *
    have HA := Lib.hid hga
    clear hga
    by_cases h10 : m < 10
    · have hz : (((m : Int) / 10) == 0) = true := by rw [beq_iff_eq]; omega
      have hres : ga :: l = R := by
        rw [HI.out, decDigits, dif_pos h10, ← HA.out, Nat.mod_eq_of_lt h10]
        rfl
      have HE := Lib.hid hres
      clear hres
      go_wp2
      go_ret
      refine ⟨?_, rfl⟩
      rw [append_S, ← HE.out]
      rfl
    · have hz : (((m : Int) / 10) == 0) = false := by rw [beq_eq_false_iff_ne]; omega
      have hres : R = decDigits (m / 10) ++ (ga :: l) := by
        rw [HI.out, decDigits, dif_neg h10, ← HA.out]
        simp
      have hl2 : (ga :: l).length ≤ 20 := by
        have := congrArg List.length hres
        rw [List.length_append] at this
        omega
      have HE := Lib.hid hres
      clear hres
      go_wp2
      go_round
      case rel => exact ⟨m / 10, ga :: l, by go_num, by rw [append_S]; rfl, by omega, hl2, HE⟩
      case measure => simp [intOf]; omega

theorem val_mono : ∀ (l : List UInt8) (n : Nat), n ≤ val n l
  | [], n => Nat.le_refl _
  | c :: l, n => by
    rw [val_cons]
    have := val_mono l (n * 10 + (c.toNat - 48))
    omega
theorem val_app (a b : List UInt8) (n : Nat) : val n (a ++ b) = val (val n a) b := by
  induction a generalizing n with
  | nil => rfl
  | cons x l ih => exact ih _
theorem val_take (l : List UInt8) (k : Nat) : val 0 (l.take k) ≤ val 0 l := by
  have : val 0 l = val (val 0 (l.take k)) (l.drop k) := by rw [← val_app, List.take_append_drop]
  rw [this]
  exact val_mono _ _

/-- What the first test asks. -/
theorem first_test (s : ByteArray) (h0 : 0 < s.size) (hz : ¬ ((L s).head? = some 48 ∧ 1 < s.size)) : (((s[0]'h0).toNat : Int) == 48) = false ∨ (s.size ≤ 1) := by
  by_cases h1 : 1 < s.size
  · refine .inl ?_
    rw [beq_eq_false_iff_ne]
    intro e
    exact hz ⟨by rw [head_get s h0]; congr 1; exact UInt8.toNat_inj.1 (by have : (48 : UInt8).toNat = 48 := rfl; omega), h1⟩
  · exact .inr (by omega)

set_option maxRecDepth 100000 in
set_option maxHeartbeats 1000000 in
theorem refnumber_loop (s : ByteArray) (w : World) (h0 : 0 < s.size) (hs : s.size ≤ 20) (hz : ¬ ((L s).head? = some 48 ∧ 1 < s.size)) (hd : digs (L s) = true) (hv : val 0 (L s) < 18446744073709551616) :
    Calls Tryz.prog 83 #[.string s] w fun e w' => e = .returned (.tuple #[.int .u64 (val 0 (L s) : Nat), .int .i64 0]) ∧ w = w' := by
  obtain ⟨e1, e2⟩ := empty_no s h0
  have HO : Hid (Calls Tryz.prog 82 #[.string s, .string D10] w fun e w' => e = .returned (.bool true) ∧ w = w') := by
    have := only_any s D10 w (by omega) (by decide)
    rw [only_dig, hd] at this
    exact Lib.hid this
  have hcmp : s.size = 20 → (Op.bytesLess s.toList most || s.toList == most) = true := fun h => by
    rw [ByteArray.toList_eq, most_cmp (L s) hd (by rw [L_len]; exact h)]
    simpa using hv
  have HD : Hid (∀ j (h : j < s.size), digitB (s[j]'h).toNat = true) := Lib.hid (by unfold digs at hd; rw [all_iff] at hd; exact hd)
  obtain ⟨V, hV⟩ : ∃ V, V = val 0 (L s) := ⟨_, rfl⟩
  rw [← hV] at hv ⊢
  have HV := Lib.hid hV
  have hft := first_test s h0 hz
  clear hV hd hz
  have hx : ((s.size ≤ 1) ∨ (1 < s.size ∧ (((s[0]'h0).toNat : Int) == 48) = false)) ∧ ((s.size < 20) ∨ (s.size = 20 ∧ (Op.bytesLess s.toList most || s.toList == most) = true)) := by
    refine ⟨?_, ?_⟩
    · by_cases h1 : 1 < s.size
      · rcases hft with h | h
        · exact .inr ⟨h1, h⟩
        · omega
      · exact .inl (by omega)
    · by_cases h : s.size = 20
      · exact .inr ⟨h, hcmp h⟩
      · exact .inl (by omega)
  clear hft hcmp
  obtain ⟨ha, hb⟩ := hx
  rcases ha with ha | ⟨ha, hf⟩ <;> rcases hb with hb | ⟨hb, hc⟩
  case inl.inr => omega
  case inl.inl =>
    have t1 : decide ((1 : Int) < (s.size : Int)) = false := by simp; omega
    have t2 : ((s.size : Int) == 20) = false := by rw [beq_eq_false_iff_ne]; omega
    clear ha
    go_enter Tryz.func83, Tryz.ntmps83
    go_wp2_with (go_at_call 82; refine HO.out.mono ?_; rintro e w' ⟨rfl, rfl⟩)
    go_loop [5, 6] (fun n i => ∃ k x : Nat, k ≤ s.size ∧ i = .int .i64 k ∧ n = .int .u64 (x : Int) ∧ Hid (x = val 0 ((L s).take k))) (fun _ i => s.size - (intOf i).toNat)
    case atStart => exact ⟨0, 0, by omega, rfl, rfl, Lib.hid rfl⟩
    case round =>
      obtain ⟨k, x, hk, rfl, rfl, HX⟩ := hrel
      by_cases hlt : k < s.size
      · have hdk := digit_bd (HD.out k hlt)
        have hnext : x * 10 + ((s[k]'hlt).toNat - 48) = val 0 ((L s).take (k + 1)) := by rw [take_next s k hlt, val_append, ← HX.out]
        have hle := val_take (L s) (k + 1)
        rw [← hnext, ← HV.out] at hle
        have HN := Lib.hid hnext
        clear hnext
        obtain ⟨p, q⟩ := hdk
        have b1 : (10 : Int) * (x : Int) + (((s[k]'hlt).toNat : Int) - 48) < 18446744073709551616 := by omega
        clear hle
        go_wp2_with fail
        go_round
        case rel => exact ⟨k + 1, x * 10 + ((s[k]'hlt).toNat - 48), by omega, by go_num, by congr 1; omega, HN⟩
        case measure => simp [intOf]; omega
      · have t0 : decide ((k : Int) < (s.size : Int)) = false := by simp; omega
        have he : (x : Int) = (V : Int) := by
          rw [HX.out, HV.out, List.take_of_length_le (by rw [L_len]; omega)]
        have HE := Lib.hid he
        clear he
        go_wp2_with fail
        go_ret2
        exact ⟨by rw [HE.out]; rfl, rfl⟩
  case inr.inl =>
    have t1 : decide ((1 : Int) < (s.size : Int)) = true := by simp; omega
    have t2 : ((s.size : Int) == 20) = false := by rw [beq_eq_false_iff_ne]; omega
    go_enter Tryz.func83, Tryz.ntmps83
    go_wp2_with (go_at_call 82; refine HO.out.mono ?_; rintro e w' ⟨rfl, rfl⟩)
    go_loop [5, 6] (fun n i => ∃ k x : Nat, k ≤ s.size ∧ i = .int .i64 k ∧ n = .int .u64 (x : Int) ∧ Hid (x = val 0 ((L s).take k))) (fun _ i => s.size - (intOf i).toNat)
    case atStart => exact ⟨0, 0, by omega, rfl, rfl, Lib.hid rfl⟩
    case round =>
      obtain ⟨k, x, hk, rfl, rfl, HX⟩ := hrel
      by_cases hlt : k < s.size
      · have hdk := digit_bd (HD.out k hlt)
        have hnext : x * 10 + ((s[k]'hlt).toNat - 48) = val 0 ((L s).take (k + 1)) := by rw [take_next s k hlt, val_append, ← HX.out]
        have hle := val_take (L s) (k + 1)
        rw [← hnext, ← HV.out] at hle
        have HN := Lib.hid hnext
        clear hnext
        obtain ⟨p, q⟩ := hdk
        have b1 : (10 : Int) * (x : Int) + (((s[k]'hlt).toNat : Int) - 48) < 18446744073709551616 := by omega
        clear hle
        go_wp2_with fail
        go_round
        case rel => exact ⟨k + 1, x * 10 + ((s[k]'hlt).toNat - 48), by omega, by go_num, by congr 1; omega, HN⟩
        case measure => simp [intOf]; omega
      · have t0 : decide ((k : Int) < (s.size : Int)) = false := by simp; omega
        have he : (x : Int) = (V : Int) := by
          rw [HX.out, HV.out, List.take_of_length_le (by rw [L_len]; omega)]
        have HE := Lib.hid he
        clear he
        go_wp2_with fail
        go_ret2
        exact ⟨by rw [HE.out]; rfl, rfl⟩
  case inr.inr =>
    have t1 : decide ((1 : Int) < (s.size : Int)) = true := by simp; omega
    have t2 : ((s.size : Int) == 20) = true := by rw [beq_iff_eq]; omega
    go_enter Tryz.func83, Tryz.ntmps83
    go_wp2_with (go_at_call 82; refine HO.out.mono ?_; rintro e w' ⟨rfl, rfl⟩)
    go_loop [5, 6] (fun n i => ∃ k x : Nat, k ≤ s.size ∧ i = .int .i64 k ∧ n = .int .u64 (x : Int) ∧ Hid (x = val 0 ((L s).take k))) (fun _ i => s.size - (intOf i).toNat)
    case atStart => exact ⟨0, 0, by omega, rfl, rfl, Lib.hid rfl⟩
    case round =>
      obtain ⟨k, x, hk, rfl, rfl, HX⟩ := hrel
      by_cases hlt : k < s.size
      · have hdk := digit_bd (HD.out k hlt)
        have hnext : x * 10 + ((s[k]'hlt).toNat - 48) = val 0 ((L s).take (k + 1)) := by rw [take_next s k hlt, val_append, ← HX.out]
        have hle := val_take (L s) (k + 1)
        rw [← hnext, ← HV.out] at hle
        have HN := Lib.hid hnext
        clear hnext
        obtain ⟨p, q⟩ := hdk
        have b1 : (10 : Int) * (x : Int) + (((s[k]'hlt).toNat : Int) - 48) < 18446744073709551616 := by omega
        clear hle
        go_wp2_with fail
        go_round
        case rel => exact ⟨k + 1, x * 10 + ((s[k]'hlt).toNat - 48), by omega, by go_num, by congr 1; omega, HN⟩
        case measure => simp [intOf]; omega
      · have t0 : decide ((k : Int) < (s.size : Int)) = false := by simp; omega
        have he : (x : Int) = (V : Int) := by
          rw [HX.out, HV.out, List.take_of_length_le (by rw [L_len]; omega)]
        have HE := Lib.hid he
        clear he
        go_wp2_with fail
        go_ret2
        exact ⟨by rw [HE.out]; rfl, rfl⟩

set_option maxRecDepth 100000 in
/-- The reference's Number, of any text. -/
theorem refnumber_any (s : ByteArray) (w : World) (hs : s.size ≤ 1000000000000) :
    Calls Tryz.prog 83 #[.string s] w fun e w' => e = .returned (.tuple #[.int .u64 (numOf (L s)).1, .int .i64 (numOf (L s)).2]) ∧ w = w' := by
  by_cases h0 : 0 < s.size
  · obtain ⟨e1, e2⟩ := empty_no s h0
    have HO0 := Lib.hid (only_any s D10 w hs (by decide))
    rw [only_dig] at HO0
    have hne : L s ≠ [] := fun e => by have := L_len s; rw [e] at this; simp at this; omega
    cases hd : digs (L s)
    · have HO : Hid (Calls Tryz.prog 82 #[.string s, .string D10] w fun e w' => e = .returned (.bool false) ∧ w = w') := by rw [hd] at HO0; exact HO0
      rw [show numOf (L s) = (0, 2) by unfold numOf; rw [if_pos (.inr (.inr hd))]]
      clear HO0 hd hne
      go_enter Tryz.func83, Tryz.ntmps83
      go_wp2_with (go_at_call 82; refine HO.out.mono ?_; rintro e w' ⟨rfl, rfl⟩)
      go_ret2
      exact ⟨rfl, rfl⟩
    · have HO : Hid (Calls Tryz.prog 82 #[.string s, .string D10] w fun e w' => e = .returned (.bool true) ∧ w = w') := by rw [hd] at HO0; exact HO0
      clear HO0
      by_cases hz : (L s).head? = some 48 ∧ 1 < s.size
      · rw [show numOf (L s) = (0, 2) by unfold numOf; rw [if_pos (.inr (.inl (by rw [L_len]; exact hz)))]]
        obtain ⟨h1, h2⟩ := hz
        rw [head_get s h0] at h1
        have h3 : (s[0]'h0).toNat = 48 := by rw [Option.some.inj h1]; rfl
        have h4 : (((s[0]'h0).toNat : Int) == 48) = true := by rw [h3]; rfl
        clear h1 h3 hd hne
        go_enter Tryz.func83, Tryz.ntmps83
        go_wp2_with (go_at_call 82; refine HO.out.mono ?_; rintro e w' ⟨rfl, rfl⟩)
        go_ret2
        exact ⟨rfl, rfl⟩
      · have hz' : ¬ ((L s).head? = some 48 ∧ 1 < (L s).length) := by rw [L_len]; exact hz
        by_cases hl : 20 < s.size
        · rw [num_long (L s) hd hne hz' (by rw [L_len]; exact hl)]
          have hf : (((s[0]'h0).toNat : Int) == 48) = false := by
            rcases first_test s h0 hz with h | h
            · exact h
            · omega
          clear hd hz hz' hne
          go_enter Tryz.func83, Tryz.ntmps83
          go_wp2_with (go_at_call 82; refine HO.out.mono ?_; rintro e w' ⟨rfl, rfl⟩)
          go_ret2
          exact ⟨rfl, rfl⟩
        · by_cases hv : val 0 (L s) < 18446744073709551616
          · rw [show numOf (L s) = (val 0 (L s), 0) by
              unfold numOf
              rw [if_neg, if_pos hv]
              rintro (e | e | e)
              · exact hne e
              · exact hz' e
              · rw [hd] at e; cases e]
            exact refnumber_loop s w h0 (by omega) hz hd hv
          · rw [show numOf (L s) = (0, 6) by
              unfold numOf
              rw [if_neg, if_neg hv]
              rintro (e | e | e)
              · exact hne e
              · exact hz' e
              · rw [hd] at e; cases e]
            have hl20 : s.size = 20 := by
              by_cases h : s.size < 20
              · exact absurd (num_short (L s) hd (by rw [L_len]; exact h)) hv
              · omega
            have hc : (Op.bytesLess s.toList most || s.toList == most) = false := by
              rw [ByteArray.toList_eq, most_cmp (L s) hd (by rw [L_len]; exact hl20)]
              simpa using hv
            have hf : (((s[0]'h0).toNat : Int) == 48) = false := by
              rcases first_test s h0 hz with h | h
              · exact h
              · omega
            have t1 : decide ((1 : Int) < (s.size : Int)) = true := by simp; omega
            have t2 : ((s.size : Int) == 20) = true := by rw [beq_iff_eq]; omega
            clear hd hz hz' hne hv hl
            go_enter Tryz.func83, Tryz.ntmps83
            go_wp2_with (go_at_call 82; refine HO.out.mono ?_; rintro e w' ⟨rfl, rfl⟩)
            go_ret2
            exact ⟨rfl, rfl⟩
  · have e : s = ⟨#[]⟩ := by
      have := L_len s
      rw [← S_L s, List.length_eq_zero_iff.1 (by omega : (L s).length = 0)]
    subst e
    rw [show numOf (L ⟨#[]⟩) = (0, 2) from rfl]
    go_enter Tryz.func83, Tryz.ntmps83
    go_wp2
    go_ret2
    exact ⟨rfl, rfl⟩
end Go.Proofs.YtinabbdecmjcpaaGreatDoor.Number
