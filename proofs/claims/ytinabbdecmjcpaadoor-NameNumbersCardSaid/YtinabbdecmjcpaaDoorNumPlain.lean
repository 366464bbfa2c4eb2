/- Plain facts on digits and numbers: no program in sight. -/
import Derived.Test.YtinabbdecmjcpaaDoorNumber
import Derived.Lib.ItoaNum
namespace Go.Proofs.YtinabbdecmjcpaaDoor.Number
open Go.Proofs.YtinabbdecmjcpaaDoor Go.Proofs.YtinabbdecmjcpaaDoor.Plain Go.Proofs.YtinabbdecmjcpaaDoor.Named
open Go.Lib (decDigits nDigits)
set_option linter.unusedVariables false

theorem val_nil (n : Nat) : val n [] = n := rfl
theorem val_cons (n : Nat) (c : UInt8) (l : List UInt8) : val n (c :: l) = val (n * 10 + (c.toNat - 48)) l := by exact id rfl
theorem val_from : ∀ (l : List UInt8) (n : Nat), val n l = n * 10 ^ l.length + val 0 l
  | [], n => by rw [val_nil, val_nil]; simp
  | c :: l, n => by
    rw [val_cons, val_cons, val_from l (n * 10 + (c.toNat - 48)), val_from l (0 * 10 + (c.toNat - 48)), List.length_cons, Nat.pow_succ]
    rw [Nat.add_mul, Nat.zero_mul, Nat.zero_add, Nat.mul_assoc, Nat.mul_comm 10, Nat.add_assoc]
theorem digit_bd {c : UInt8} (h : digitB c.toNat = true) : 48 ≤ c.toNat ∧ c.toNat ≤ 57 := by
  simp [digitB] at h
  omega
theorem val_lt : ∀ (l : List UInt8), digs l = true → val 0 l < 10 ^ l.length
  | [], _ => by rw [val_nil]; simp
  | c :: l, h => by
    have h1 : digitB c.toNat = true := by simp [digs] at h; exact h.1
    have h2 : digs l = true := by simp [digs] at h ⊢; exact h.2
    have ih := val_lt l h2
    obtain ⟨a, b⟩ := digit_bd h1
    rw [val_cons, val_from, List.length_cons, Nat.pow_succ]
    have : (0 * 10 + (c.toNat - 48)) * 10 ^ l.length ≤ 9 * 10 ^ l.length := Nat.mul_le_mul_right _ (by omega)
    omega
theorem val_ge (c : UInt8) (l : List UInt8) (h : digitB c.toNat = true) (hc : c ≠ 48) : 10 ^ l.length ≤ val 0 (c :: l) := by
  obtain ⟨a, b⟩ := digit_bd h
  have : c.toNat ≠ 48 := fun e => hc (UInt8.toNat_inj.1 e)
  rw [val_cons, val_from]
  have : 1 * 10 ^ l.length ≤ (0 * 10 + (c.toNat - 48)) * 10 ^ l.length := Nat.mul_le_mul_right _ (by omega)
  omega
/-- Of digits as many, the first in order is the smaller number. -/
theorem less_val : ∀ (a b : List UInt8), a.length = b.length → digs a = true → digs b = true → Op.bytesLess a b = decide (val 0 a < val 0 b)
  | [], [], _, _, _ => by rw [val_nil]; simp [Op.bytesLess]
  | [], _ :: _, h, _, _ => by simp at h
  | _ :: _, [], h, _, _ => by simp at h
  | c :: a, d :: b, h, ha, hb => by
    have hl : a.length = b.length := by simpa using h
    have h1 : digitB c.toNat = true := by simp [digs] at ha; exact ha.1
    have h2 : digs a = true := by simp [digs] at ha ⊢; exact ha.2
    have h3 : digitB d.toNat = true := by simp [digs] at hb; exact hb.1
    have h4 : digs b = true := by simp [digs] at hb ⊢; exact hb.2
    have ih := less_val a b hl h2 h4
    obtain ⟨p, q⟩ := digit_bd h1
    obtain ⟨p', q'⟩ := digit_bd h3
    have va := val_lt a h2
    have vb := val_lt b h4
    rw [hl] at va
    have ea : val 0 (c :: a) = (c.toNat - 48) * 10 ^ b.length + val 0 a := by rw [val_cons, val_from, hl]; simp
    have eb : val 0 (d :: b) = (d.toNat - 48) * 10 ^ b.length + val 0 b := by rw [val_cons, val_from]; simp
    rw [ea, eb]
    generalize 10 ^ b.length = T at *
    by_cases e : c.toNat = d.toNat
    · have e' : c = d := UInt8.toNat_inj.1 e
      subst e'
      rw [show Op.bytesLess (c :: a) (c :: b) = Op.bytesLess a b by simp [Op.bytesLess], ih]
      simp
    · by_cases hlt : c.toNat < d.toNat
      · have hs : (c.toNat - 48 + 1) * T ≤ (d.toNat - 48) * T := Nat.mul_le_mul_right _ (by omega)
        rw [Nat.add_mul, Nat.one_mul] at hs
        rw [show Op.bytesLess (c :: a) (d :: b) = true by simp [Op.bytesLess, UInt8.lt_iff_toNat_lt, hlt]]
        symm
        simp
        omega
      · have hs : (d.toNat - 48 + 1) * T ≤ (c.toNat - 48) * T := Nat.mul_le_mul_right _ (by omega)
        rw [Nat.add_mul, Nat.one_mul] at hs
        rw [show Op.bytesLess (c :: a) (d :: b) = false by simp [Op.bytesLess, UInt8.lt_iff_toNat_lt, hlt]; intro x; exact absurd (congrArg UInt8.toNat x) e]
        symm
        simp
        omega
theorem val_inj : ∀ (a b : List UInt8), a.length = b.length → digs a = true → digs b = true → val 0 a = val 0 b → a = b
  | [], [], _, _, _, _ => rfl
  | [], _ :: _, h, _, _, _ => by simp at h
  | _ :: _, [], h, _, _, _ => by simp at h
  | c :: a, d :: b, h, ha, hb, hv => by
    have hl : a.length = b.length := by simpa using h
    have h1 : digitB c.toNat = true := by simp [digs] at ha; exact ha.1
    have h2 : digs a = true := by simp [digs] at ha ⊢; exact ha.2
    have h3 : digitB d.toNat = true := by simp [digs] at hb; exact hb.1
    have h4 : digs b = true := by simp [digs] at hb ⊢; exact hb.2
    obtain ⟨p, q⟩ := digit_bd h1
    obtain ⟨p', q'⟩ := digit_bd h3
    have va := val_lt a h2
    have vb := val_lt b h4
    rw [hl] at va
    have ea : val 0 (c :: a) = (c.toNat - 48) * 10 ^ b.length + val 0 a := by rw [val_cons, val_from, hl]; simp
    have eb : val 0 (d :: b) = (d.toNat - 48) * 10 ^ b.length + val 0 b := by rw [val_cons, val_from]; simp
    rw [ea, eb] at hv
    have key : c.toNat = d.toNat ∧ val 0 a = val 0 b := by
      generalize 10 ^ b.length = T at *
      by_cases hlt : c.toNat < d.toNat
      · have hs : (c.toNat - 48 + 1) * T ≤ (d.toNat - 48) * T := Nat.mul_le_mul_right _ (by omega)
        rw [Nat.add_mul, Nat.one_mul] at hs
        omega
      · by_cases hgt : d.toNat < c.toNat
        · have hs : (d.toNat - 48 + 1) * T ≤ (c.toNat - 48) * T := Nat.mul_le_mul_right _ (by omega)
          rw [Nat.add_mul, Nat.one_mul] at hs
          omega
        · have e : c.toNat = d.toNat := by omega
          rw [e] at hv
          exact ⟨e, by omega⟩
    rw [UInt8.toNat_inj.1 key.1, val_inj a b hl h2 h4 key.2]

/-! ### The digits of a number -/
theorem dg_toNat (n : Nat) (h : n < 10) : (UInt8.ofNat (48 + n)).toNat = 48 + n := by
  rw [UInt8.toNat_ofNat']; omega
theorem digs_dec (n : Nat) : digs (decDigits n) = true := by
  induction n using Nat.strongRecOn with
  | _ n ih =>
    rw [decDigits]
    split
    · rename_i h
      simp only [digs, List.all_cons, List.all_nil, Bool.and_true]
      rw [dg_toNat n h]
      simp [digitB]; omega
    · rename_i h
      have := ih (n / 10) (by omega)
      simp only [digs, List.all_append, List.all_cons, List.all_nil, Bool.and_true, Bool.and_eq_true] at this ⊢
      refine ⟨this, ?_⟩
      rw [dg_toNat _ (by omega)]
      simp [digitB]; omega
theorem val_dec (n : Nat) : val 0 (decDigits n) = n := by
  induction n using Nat.strongRecOn with
  | _ n ih =>
    rw [decDigits]
    split
    · rename_i h
      rw [val_cons, val_nil, dg_toNat n h]; omega
    · rename_i h
      rw [val_append, ih (n / 10) (by omega), dg_toNat _ (by omega)]
      omega
theorem dec_ne (n : Nat) : decDigits n ≠ [] := by
  intro h
  have := Go.Lib.decDigits_length n
  rw [h] at this
  have := Go.Lib.nDigits_pos n
  simp at *
  omega
theorem dec_head (n : Nat) (h : 1 ≤ n) : (decDigits n).head? ≠ some 48 := by
  induction n using Nat.strongRecOn with
  | _ n ih =>
    rw [decDigits]
    split
    · rename_i h'
      intro e
      have e' := congrArg UInt8.toNat (Option.some.inj e)
      rw [dg_toNat n h'] at e'
      have : (48 : UInt8).toNat = 48 := rfl
      omega
    · rename_i h'
      have := ih (n / 10) (by omega) (by omega)
      cases hd : decDigits (n / 10) with
      | nil => exact absurd hd (dec_ne _)
      | cons x l => rw [hd] at this; simpa using this
/-- The digits of a number lead back to it. -/
theorem num_dec (n : Nat) (h : n < 18446744073709551616) : numOf (decDigits n) = (n, 0) := by
  unfold numOf
  rw [if_neg, val_dec, if_pos h]
  rintro (e | ⟨e1, e2⟩ | e)
  · exact dec_ne n e
  · by_cases h0 : n = 0
    · subst h0
      rw [decDigits, dif_pos (by omega)] at e2
      simp at e2
    · exact dec_head n (by omega) e1
  · rw [digs_dec] at e; cases e
/-- Whoever is digits is the digits of their number. -/
theorem dec_num (l : List UInt8) (n : Nat) (h : numOf l = (n, 0)) : decDigits n = l ∧ n < 18446744073709551616 := by
  unfold numOf at h
  split at h
  · cases h
  · rename_i hc
    split at h
    · rename_i hv
      have e : val 0 l = n := congrArg Prod.fst h
      refine ⟨?_, by omega⟩
      have hd : digs l = true := by
        cases hx : digs l
        · exact absurd (.inr (.inr hx)) hc
        · rfl
      have hne : l ≠ [] := fun x => hc (.inl x)
      have hl : (decDigits n).length = l.length := by
        rw [Go.Lib.decDigits_length]
        cases l with
        | nil => exact absurd rfl hne
        | cons c t =>
          have ht := val_lt _ hd
          by_cases h48 : c = 48
          · subst h48
            have : t = [] := by
              cases t with
              | nil => rfl
              | cons x y => exact absurd (.inr (.inl ⟨rfl, by simp⟩)) hc
            subst this
            rw [← e]
            exact Go.Lib.nDigits_small (by rw [val_cons, val_nil]; decide)
          · have hc1 : digitB c.toNat = true := by simp [digs] at hd; exact hd.1
            have := val_ge c t hc1 h48
            rw [e] at this ht
            exact Go.Lib.nDigits_unique t.length n this (by simpa using ht)
      exact val_inj _ _ hl (digs_dec n) hd (by rw [val_dec, e])
    · cases h
theorem dec_len (n : Nat) (h : n < 18446744073709551616) : (decDigits n).length ≤ 20 := by
  rw [Go.Lib.decDigits_length]
  by_cases h1 : 1 ≤ n
  · have := Go.Lib.numDigits_eq n h1 h
    split at this <;> omega
  · obtain rfl : n = 0 := by omega
    rw [Go.Lib.nDigits_small (by omega)]; omega
/-- What is longer than 20 digits is too great, as is what is behind the greatest, of as many. -/
theorem num_long (l : List UInt8) (hd : digs l = true) (h0 : l ≠ []) (hz : ¬ (l.head? = some 48 ∧ 1 < l.length)) (hl : 20 < l.length) : numOf l = (0, 6) := by
  unfold numOf
  rw [if_neg, if_neg]
  · intro hv
    cases l with
    | nil => exact h0 rfl
    | cons c t =>
      have h48 : c ≠ 48 := fun e => hz ⟨by rw [e]; rfl, by simp at hl ⊢; omega⟩
      have hc1 : digitB c.toNat = true := by simp [digs] at hd; exact hd.1
      have := val_ge c t hc1 h48
      have : 10 ^ 20 ≤ 10 ^ t.length := Nat.pow_le_pow_right (by omega) (by simp at hl; omega)
      omega
  · rintro (e | e | e)
    · exact h0 e
    · exact hz e
    · rw [hd] at e; cases e
abbrev most : List UInt8 := [49, 56, 52, 52, 54, 55, 52, 52, 48, 55, 51, 55, 48, 57, 53, 53, 49, 54, 49, 53]
theorem most_val : val 0 most = 18446744073709551615 := by decide
theorem most_cmp (l : List UInt8) (hd : digs l = true) (hl : l.length = 20) : (Op.bytesLess l most || l == most) = decide (val 0 l < 18446744073709551616) := by
  have hm : digs most = true := by decide
  rw [less_val l most hl hd hm, most_val]
  by_cases e : l = most
  · subst e
    rw [most_val]; simp
  · have hne : (l == most) = false := by simpa using e
    have : val 0 l ≠ 18446744073709551615 := fun x => e (val_inj l most hl hd hm (by rw [x, most_val]))
    rw [hne, Bool.or_false]
    simp
    omega
theorem num_short (l : List UInt8) (hd : digs l = true) (hl : l.length < 20) : val 0 l < 18446744073709551616 := by
  have := val_lt l hd
  have : 10 ^ l.length ≤ 10 ^ 19 := Nat.pow_le_pow_right (by omega) (by omega)
  omega
end Go.Proofs.YtinabbdecmjcpaaDoor.Number
