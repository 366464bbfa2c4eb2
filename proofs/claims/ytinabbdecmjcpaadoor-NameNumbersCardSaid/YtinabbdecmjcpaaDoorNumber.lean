/- The contract of name.Number: the number of any digits, or what is wrong; nothing that was there is changed. -/
import Derived.Test.YtinabbdecmjcpaaDoorNamed
namespace Go.Proofs.YtinabbdecmjcpaaDoor.Number
open Go.RowKit Go.Proofs.YtinabbdecmjcpaaDoor Go.Proofs.YtinabbdecmjcpaaDoor.Plain Go.Proofs.YtinabbdecmjcpaaDoor.Words Go.Proofs.YtinabbdecmjcpaaDoor.Named
set_option linter.unusedVariables false

/-- The value of digits. -/
def val (n : Nat) : List UInt8 → Nat
  | [] => n
  | c :: l => val (n * 10 + (c.toNat - 48)) l

def digs (l : List UInt8) : Bool := l.all fun c => digitB c.toNat

/-- What Number answers: the number, and the error. -/
def numOf (l : List UInt8) : Nat × Nat :=
  if l = [] ∨ (l.head? = some 48 ∧ 1 < l.length) ∨ digs l = false then (0, 2)
  else if val 0 l < 18446744073709551616 then (val 0 l, 0) else (0, 6)

theorem val_append (n : Nat) (a : List UInt8) (c : UInt8) : val n (a ++ [c]) = val n a * 10 + (c.toNat - 48) := by
  induction a generalizing n with
  | nil => rfl
  | cons x l ih => exact ih _

theorem take_next (s : ByteArray) (pos : Nat) (hp : pos < s.size) : (L s).take (pos + 1) = (L s).take pos ++ [s[pos]'hp] := by
  rw [List.take_add_one, get_L s pos hp]
  rfl

theorem digitB_high (n : Nat) (h : 128 ≤ n) : digitB n = false := by simp [digitB]; omega

theorem num_bad (s : ByteArray) (pos : Nat) (hp : pos < s.size) (hb : digitB (s[pos]'hp).toNat = false) : numOf (L s) = (0, 2) := by
  unfold numOf
  rw [if_pos]
  refine .inr (.inr ?_)
  rw [Bool.eq_false_iff]
  intro e
  unfold digs at e
  rw [all_iff] at e
  rw [e pos hp] at hb
  cases hb

theorem num_end (s : ByteArray) (h0 : 0 < s.size) (h1 : ¬ ((L s).head? = some 48 ∧ 1 < s.size)) (hd : ∀ j (h : j < s.size), digitB (s[j]'h).toNat = true) :
    numOf (L s) = if val 0 (L s) < 18446744073709551616 then (val 0 (L s), 0) else (0, 6) := by
  unfold numOf
  rw [if_neg]
  rintro (h | h | h)
  · have := L_len s; rw [h] at this; simp at this; omega
  · rw [L_len] at h; exact h1 h
  · have : digs (L s) = true := by unfold digs; rw [all_iff]; exact hd
    rw [this] at h; cases h

theorem head_get (s : ByteArray) (h : 0 < s.size) : (L s).head? = some (s[0]'h) := by
  obtain ⟨l, hl⟩ := head_L s h
  rw [hl]; rfl

theorem val_start (s : ByteArray) : Hid (0 = val 0 ((L s).take 0)) := Lib.hid rfl
theorem dig_start (s : ByteArray) : Hid (∀ j (h : j < s.size), j < 0 → digitB (s[j]'h).toNat = true) := Lib.hid fun j hj h => absurd h (by omega)

theorem wrap64_lo (n : Int) : 0 ≤ IntKind.u64.wrap n := by unfold IntKind.wrap; simp [IntKind.signed, IntKind.bits]; omega
theorem wrap64_hi (n : Int) : IntKind.u64.wrap n < 18446744073709551616 := by unfold IntKind.wrap; simp [IntKind.signed, IntKind.bits]; omega

/-- What the loop keeps. -/
def NumRel (s : ByteArray) (w : World) (n o : Value) (wr : World) : Prop :=
  ∃ (pos V : Nat), pos ≤ s.size ∧ wr.heap[w.heap.size]? = some (.stringIter s pos) ∧ Below w.heap.size w wr ∧ Hid (V = val 0 ((L s).take pos)) ∧ Hid (∀ j (h : j < s.size), j < pos → digitB (s[j]'h).toNat = true) ∧
    ((V < 18446744073709551616 ∧ n = .int .u64 V ∧ o = .bool false) ∨ (18446744073709551616 ≤ V ∧ (∃ x : Int, 0 ≤ x ∧ x < 18446744073709551616 ∧ n = .int .u64 x) ∧ o = .bool true))

set_option maxRecDepth 100000 in
set_option maxHeartbeats 1000000 in
theorem number_more (s : ByteArray) (w : World) (h0 : 0 < s.size) (hs : s.size ≤ 1000000000000) (hz : ¬ ((L s).head? = some 48 ∧ 1 < s.size)) :
    Calls Tryd.prog 6 #[.string s] w fun e w' => e = .returned (.tuple #[.int .u64 (numOf (L s)).1, .int .i64 (numOf (L s)).2]) ∧ Below w.heap.size w w' := by
  obtain ⟨e1, e2⟩ := empty_no s h0
  obtain ⟨R, hR⟩ : ∃ R, R = numOf (L s) := ⟨_, rfl⟩
  rw [← hR]
  have HR := Lib.hid hR
  have HZ := Lib.hid hz
  have HH := Lib.hid (head_get s h0)
  clear hR hz
  have hfirst : (((s[0]'h0).toNat : Int) == 48) = false ∨ ((((s[0]'h0).toNat : Int) == 48) = true ∧ ((s.size : Int) ≤ 1)) := by
    by_cases h : (s[0]'h0).toNat = 48
    · refine .inr ⟨by rw [h]; rfl, ?_⟩
      by_cases h' : 1 < s.size
      · exact absurd ⟨by rw [HH.out]; congr 1; exact UInt8.toNat_inj.1 h, h'⟩ HZ.out
      · omega
    · exact .inl (by rw [beq_eq_false_iff_ne]; omega)
  rcases hfirst with hf | ⟨hf, hf'⟩
  all_goals
    go_enter Tryd.func6, Tryd.ntmps6
    go_wp2
    go_loopw [4, 5] (fun n o wr => NumRel s w n o wr) (fun _ _ wr => s.size - wr.iterPos w.heap.size)
    case atStart => exact ⟨0, 0, by omega, World.iter_heap w s 0, (Below.refl _ _).alloc (Nat.le_refl _) _, val_start s, dig_start s, .inl ⟨by decide, rfl, rfl⟩⟩
    case round =>
      obtain ⟨pos, V, hps, hit, hbel, HV, HD, hcase⟩ := hrel
      have hpos0 := iterPos_of hit
      by_cases hp : pos < s.size
      · obtain ⟨r, k, W1, hnx, hit2, hbel2, hr1, hc⟩ := next_name (P := Tryd.prog) hp hit hbel
        have HC := Lib.hid hc
        clear hc hit hbel
        cases hpr : digitB r
        · have HP := Lib.hid hpr
          clear hpr
          have hRv : R = (0, 2) := by
            rw [HR.out]
            rcases HC.out with ⟨h1, _⟩ | ⟨_, h2⟩
            · exact num_bad s pos hp (by rw [← h1]; exact HP.out)
            · exact num_bad s pos hp (digitB_high _ h2)
          subst hRv
          rcases hcase with ⟨_, rfl, rfl⟩ | ⟨_, ⟨x, hx0, hx1, rfl⟩, rfl⟩
          all_goals
            go_wp2_with (go_at_call 20; refine (digit_any _ _).mono ?_; rintro e w' ⟨rfl, rfl⟩; rw [HP.out])
            go_ret2
            exact ⟨rfl, hbel2⟩
        · obtain ⟨hrc, rfl⟩ : r = (s[pos]'hp).toNat ∧ k = 1 := by
            rcases HC.out with h | ⟨h1, _⟩
            · exact h
            · rw [digitB_high _ h1] at hpr; cases hpr
          have hr : 48 ≤ r ∧ r ≤ 57 := by
            have := hpr
            simp [digitB] at this
            omega
          obtain ⟨d, hrd⟩ : ∃ d, r = 48 + d := ⟨r - 48, by omega⟩
          have hd9 : d ≤ 9 := by omega
          have HV2 : Hid (V * 10 + d = val 0 ((L s).take (pos + 1))) := Lib.hid (by rw [take_next s pos hp, val_append, ← HV.out, ← hrc]; omega)
          have HD2 : Hid (∀ j (h : j < s.size), j < pos + 1 → digitB (s[j]'h).toNat = true) := Lib.hid (by
            intro j hj hlt
            by_cases h : j < pos
            · exact HD.out j hj h
            · obtain rfl : j = pos := by omega
              rw [← hrc]; exact hpr)
          have HP := Lib.hid hpr
          clear hpr hrc HC HV HD
          have w1 : IntKind.i32.wrap ((r : Int) - 48) = (d : Int) := by rw [hrd, show ((48 + d : Nat) : Int) - 48 = (d : Int) by omega]; exact IntWalk.i32_in _ (by omega)
          clear hrd
          rcases hcase with ⟨hlt, rfl, rfl⟩ | ⟨hge, ⟨x, hx0, hx1, rfl⟩, rfl⟩
          · by_cases htest : V * 10 + d < 18446744073709551616
            · go_wp2_with (go_at_call 20; refine (digit_any _ _).mono ?_; rintro e w' ⟨rfl, rfl⟩; rw [HP.out])
              go_roundw
              case rel => exact ⟨pos + 1, V * 10 + d, by omega, hit2, hbel2, HV2, HD2, .inl ⟨htest, by go_num, rfl⟩⟩
              case measure => rw [iterPos_of hit2, hpos0]; omega
            · go_wp2_with (go_at_call 20; refine (digit_any _ _).mono ?_; rintro e w' ⟨rfl, rfl⟩; rw [HP.out])
              go_roundw
              case rel => exact ⟨pos + 1, V * 10 + d, by omega, hit2, hbel2, HV2, HD2, .inr ⟨by omega, ⟨_, wrap64_lo _, wrap64_hi _, rfl⟩, rfl⟩⟩
              case measure => rw [iterPos_of hit2, hpos0]; omega
          · by_cases htest : (18446744073709551615 - (d : Int)) / 10 < x
            all_goals
              go_wp2_with (go_at_call 20; refine (digit_any _ _).mono ?_; rintro e w' ⟨rfl, rfl⟩; rw [HP.out])
              go_roundw
              case rel => first
                | exact ⟨pos + 1, V * 10 + d, by omega, hit2, hbel2, HV2, HD2, .inr ⟨by omega, ⟨_, wrap64_lo _, wrap64_hi _, rfl⟩, rfl⟩⟩
                | exact ⟨pos + 1, V * 10 + d, by omega, hit2, hbel2, HV2, HD2, .inr ⟨by omega, ⟨x * 10 + d, by omega, by omega, rfl⟩, rfl⟩⟩
              case measure => rw [iterPos_of hit2, hpos0]; omega
      · have hnx : ∀ ty, (Instr.next (.pointer (some ⟨w.heap.size, 0, none⟩)) true ty).run Tryd.prog wr = _ := fun ty => Lib.run_next_end_at wr w.heap.size s pos ty hit hp
        have hV : V = val 0 (L s) := by
          rw [HV.out, List.take_of_length_le]
          rw [L_len]; omega
        have hD : ∀ j (h : j < s.size), digitB (s[j]'h).toNat = true := fun j h => HD.out j h (by omega)
        have hRR := HR.out
        rw [num_end s h0 HZ.out hD, ← hV] at hRR
        clear hV hD HV HD
        rcases hcase with ⟨hlt, rfl, rfl⟩ | ⟨hge, ⟨x, hx0, hx1, rfl⟩, rfl⟩
        · rw [if_pos hlt] at hRR
          subst hRR
          go_wp2_with fail
          go_ret2
          exact ⟨rfl, hbel⟩
        · rw [if_neg (by omega)] at hRR
          subst hRR
          go_wp2_with fail
          go_ret2
          exact ⟨rfl, hbel⟩

/-- name.Number, of any text. -/
theorem number_any (s : ByteArray) (w : World) (hs : s.size ≤ 1000000000000) :
    Calls Tryd.prog 6 #[.string s] w fun e w' => e = .returned (.tuple #[.int .u64 (numOf (L s)).1, .int .i64 (numOf (L s)).2]) ∧ Below w.heap.size w w' := by
  by_cases h : 0 < s.size
  · by_cases hz : (L s).head? = some 48 ∧ 1 < s.size
    · obtain ⟨e1, e2⟩ := empty_no s h
      rw [show numOf (L s) = (0, 2) by unfold numOf; rw [if_pos (.inr (.inl (by rw [L_len]; exact hz)))]]
      obtain ⟨h1, h2⟩ := hz
      rw [head_get s h] at h1
      have h3 : (s[0]'h).toNat = 48 := by rw [Option.some.inj h1]; rfl
      have h4 : (((s[0]'h).toNat : Int) == 48) = true := by rw [h3]; rfl
      clear h1 h3
      go_enter Tryd.func6, Tryd.ntmps6
      go_wp2
      go_ret2
      exact ⟨rfl, Below.refl _ _⟩
    · exact number_more s w h hs hz
  · have e : s = ⟨#[]⟩ := by
      have := L_len s
      rw [← S_L s, List.length_eq_zero_iff.1 (by omega : (L s).length = 0)]
    subst e
    rw [show numOf (L ⟨#[]⟩) = (0, 2) from rfl]
    go_enter Tryd.func6, Tryd.ntmps6
    go_wp2
    go_ret2
    exact ⟨rfl, Below.refl _ _⟩
end Go.Proofs.YtinabbdecmjcpaaDoor.Number
