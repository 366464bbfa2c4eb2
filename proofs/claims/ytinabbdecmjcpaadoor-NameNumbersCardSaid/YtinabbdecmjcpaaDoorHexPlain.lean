/- Plain facts on bytes as digits and back; no program in sight. -/
import Derived.Test.YtinabbdecmjcpaaDoorPlain
import Derived.Laws.BitsAllLaws
namespace Go.Proofs.YtinabbdecmjcpaaDoor.Plain

/-- The digit of a number below 16. -/
def sg (n : Nat) : UInt8 := if n < 10 then UInt8.ofNat (48 + n) else UInt8.ofNat (87 + n)
/-- Two digits a byte. -/
def two (c : UInt8) : List UInt8 := [sg (c.toNat / 16), sg (c.toNat % 16)]
def hexs (l : List UInt8) : List UInt8 := l.flatMap two
/-- Bytes as digits. -/
def hexOf (l : List UInt8) : List UInt8 := if l = [] then [45] else hexs l
/-- The number of a digit. -/
def nib (n : Nat) : Option Nat := if 48 ≤ n ∧ n ≤ 57 then some (n - 48) else if 97 ≤ n ∧ n ≤ 102 then some (n - 87) else none
/-- The bytes of digits, two by two. -/
def unhex : List UInt8 → Option (List UInt8)
  | [] => some []
  | [_] => none
  | a :: b :: l => match nib a.toNat, nib b.toNat, unhex l with
    | some x, some y, some r => some (UInt8.ofNat (16 * x + y) :: r)
    | _, _, _ => none
/-- The bytes of a text of digits. -/
def bytesOf (l : List UInt8) : Option (List UInt8) := if l = [45] then some [] else if l = [] then none else unhex l

theorem hexs_len : ∀ l : List UInt8, (hexs l).length = 2 * l.length
  | [] => rfl
  | c :: l => by
    have e : hexs (c :: l) = two c ++ hexs l := rfl
    rw [e, List.length_append, hexs_len l]
    simp [two]
    omega
theorem hexs_snoc (l : List UInt8) (c : UInt8) : hexs (l ++ [c]) = hexs l ++ two c := by simp [hexs]

theorem sg_toNat (n : Nat) (h : n < 16) : (sg n).toNat = if n < 10 then 48 + n else 87 + n := by
  unfold sg
  split
  · simp [UInt8.toNat_ofNat']; omega
  · simp [UInt8.toNat_ofNat']; omega
theorem nib_sg (n : Nat) (h : n < 16) : nib (sg n).toNat = some n := by
  rw [sg_toNat n h]
  unfold nib
  split
  · rw [if_pos (by omega)]; congr 1; omega
  · rw [if_neg (by omega), if_pos (by omega)]; congr 1; omega
theorem nib_lt {n x : Nat} (h : nib n = some x) : x < 16 := by
  unfold nib at h
  split at h
  · cases h; omega
  · split at h
    · cases h; omega
    · cases h
theorem sg_nib (c : UInt8) (x : Nat) (h : nib c.toNat = some x) : sg x = c := by
  have hx := nib_lt h
  apply UInt8.toNat_inj.1
  rw [sg_toNat x hx]
  unfold nib at h
  split at h
  · cases h
    split <;> omega
  · split at h
    · cases h
      split <;> omega
    · cases h
theorem sg_ne (n : Nat) (h : n < 16) : (sg n).toNat ≠ 45 := by rw [sg_toNat n h]; split <;> omega

theorem unhex_hexs : ∀ l : List UInt8, unhex (hexs l) = some l
  | [] => rfl
  | c :: l => by
    have ih := unhex_hexs l
    have hc := c.toNat_lt
    have e : hexs (c :: l) = sg (c.toNat / 16) :: sg (c.toNat % 16) :: hexs l := rfl
    rw [e, unhex, nib_sg _ (by omega), nib_sg _ (by omega), ih]
    have : UInt8.ofNat (16 * (c.toNat / 16) + c.toNat % 16) = c := by
      rw [Nat.div_add_mod]; simp
    simp [this]

theorem bytesOf_hexOf (l : List UInt8) : bytesOf (hexOf l) = some l := by
  unfold hexOf
  split
  · rename_i h; subst h; rfl
  · rename_i h
    unfold bytesOf
    cases l with
    | nil => exact absurd rfl h
    | cons c l =>
      have e : hexs (c :: l) = sg (c.toNat / 16) :: sg (c.toNat % 16) :: hexs l := rfl
      rw [if_neg (by rw [e]; simp), if_neg (by rw [e]; simp), unhex_hexs]

theorem hexs_unhex : ∀ (l r : List UInt8), unhex l = some r → hexs r = l
  | [], r, h => by cases h; rfl
  | [_], r, h => by cases h
  | a :: b :: l, r, h => by
    rw [unhex] at h
    split at h
    · rename_i x y r' hx hy hr
      cases h
      have ih := hexs_unhex l r' hr
      have x1 := nib_lt hx
      have y1 := nib_lt hy
      have e : hexs (UInt8.ofNat (16 * x + y) :: r') = sg ((UInt8.ofNat (16 * x + y)).toNat / 16) :: sg ((UInt8.ofNat (16 * x + y)).toNat % 16) :: hexs r' := rfl
      have e2 : (UInt8.ofNat (16 * x + y)).toNat = 16 * x + y := by simp [UInt8.toNat_ofNat']; omega
      rw [e, e2, show (16 * x + y) / 16 = x by omega, show (16 * x + y) % 16 = y by omega, sg_nib a x hx, sg_nib b y hy, ih]
    · cases h

theorem hexOf_bytesOf (l r : List UInt8) (h : bytesOf l = some r) : hexOf r = l := by
  unfold bytesOf at h
  split at h
  · cases h; rename_i e; rw [e]; rfl
  · split at h
    · cases h
    · rename_i h1 h2
      have e := hexs_unhex l r h
      unfold hexOf
      split
      · rename_i e3
        subst e3
        exact absurd e.symm h2
      · exact e

/-- Are a text's bytes digits of bytes? -/
def hexesB (l : List UInt8) : Bool := decide (l = [45]) || (decide (0 < l.length) && decide (l.length % 2 = 0) && l.all (fun c => (nib c.toNat).isSome))

theorem unhex_isSome : ∀ l : List UInt8, (unhex l).isSome = (decide (l.length % 2 = 0) && l.all (fun c => (nib c.toNat).isSome))
  | [] => rfl
  | [_] => by simp [unhex]
  | a :: b :: l => by
    have ih := unhex_isSome l
    rw [unhex]
    have e : decide ((a :: b :: l).length % 2 = 0) = decide (l.length % 2 = 0) := by
      congr 1
      simp only [List.length_cons, eq_iff_iff]
      omega
    rw [e]
    simp only [List.all_cons]
    cases ha : nib a.toNat with
    | none => simp
    | some x =>
      cases hb : nib b.toNat with
      | none => simp
      | some y =>
        cases hr : unhex l with
        | none => rw [hr] at ih; simp at ih; simpa using ih
        | some r => rw [hr] at ih; simp at ih; simpa using ih

theorem hexesB_eq (l : List UInt8) : hexesB l = (bytesOf l).isSome := by
  unfold hexesB bytesOf
  by_cases h1 : l = [45]
  · simp [h1]
  · rw [if_neg h1, decide_eq_false h1, Bool.false_or]
    by_cases h2 : l = []
    · simp [h2]
    · rw [if_neg h2, unhex_isSome, decide_eq_true (by rw [← ne_eq, ← List.length_pos_iff] at h2; exact h2 : 0 < l.length), Bool.true_and]

/-- 'x << 4 | y' on bytes. -/
theorem or_shift (a x : Nat) (ha : a < 16) (hx : x < 16) : bits .or .u8 ((a : Int) * 16) (x : Int) = ((16 * a + x : Nat) : Int) := by
  have h : ∀ a x : Fin 16, bits .or .u8 (((a : Nat) : Int) * 16) ((x : Nat) : Int) = ((16 * (a : Nat) + (x : Nat) : Nat) : Int) := by decide +kernel
  exact h ⟨a, ha⟩ ⟨x, hx⟩
theorem and15 (c : UInt8) : bits .and .u8 (c.toNat : Int) 15 = ((c.toNat % 16 : Nat) : Int) := by
  have h : ∀ c : Fin 256, bits .and .u8 ((c : Nat) : Int) 15 = (((c : Nat) % 16 : Nat) : Int) := by decide +kernel
  exact h ⟨c.toNat, c.toNat_lt⟩
end Go.Proofs.YtinabbdecmjcpaaDoor.Plain
