/- Plain facts, no program in sight: the words of a line as a scan over its bytes; what a rune's bytes are. -/
import Derived.Laws.RangeAny
import Derived.Lib.Strings
namespace Go.Proofs.YtinabbdecmjcpaaDoor.Plain

/-- The words of what is left, behind the word so far and the words so far; none: it is no line. -/
def scan : List UInt8 → List UInt8 → List (List UInt8) → Option (List (List UInt8))
  | [], w, acc => if w = [] then none else some (acc ++ [w])
  | c :: l, w, acc => if c.toNat = 32 then (if w = [] then none else scan l [] (acc ++ [w])) else if c.toNat < 32 then none else scan l (w ++ [c]) acc

/-- The words of a line. -/
def words (l : List UInt8) : Option (List (List UInt8)) := if l = [] then some [] else scan l [] []

theorem scan_high : ∀ (a l w : List UInt8) (acc : List (List UInt8)), (∀ c ∈ a, 32 < c.toNat) → scan (a ++ l) w acc = scan l (w ++ a) acc
  | [], l, w, acc, _ => by simp
  | c :: a, l, w, acc, h => by
    have hc := h c (by simp)
    rw [List.cons_append, scan, if_neg (by omega), if_neg (by omega), scan_high a l (w ++ [c]) acc (fun x hx => h x (by simp [hx]))]
    simp

theorem scan_len : ∀ (l w : List UInt8) (acc r : List (List UInt8)), scan l w acc = some r → r.length ≤ acc.length + l.length + 1
  | [], w, acc, r, h => by
    unfold scan at h
    split at h
    · cases h
    · cases h; simp
  | c :: l, w, acc, r, h => by
    unfold scan at h
    split at h
    · split at h
      · cases h
      · have := scan_len l [] (acc ++ [w]) r h
        simp at this ⊢; omega
    · split at h
      · cases h
      · have := scan_len l (w ++ [c]) acc r h
        simp at this ⊢; omega

/-- A rune that does not begin with a letter of ASCII: its bytes lie in the text, and are none of ASCII's. -/
theorem decode_bytes (s : ByteArray) (pos : Nat) (h : pos < s.size) (ha : 128 ≤ (s[pos]'h).toNat) :
    pos + (Utf8.decode s pos).2 ≤ s.size ∧ ∀ j, j < (Utf8.decode s pos).2 → 128 ≤ (s.get! (pos + j)).toNat := by
  have hn : ¬ (s[pos]'h).toNat < 128 := by omega
  have h0 : 128 ≤ (s.get! (pos + 0)).toNat := by rw [get_at s pos h]; exact ha
  have key : ∀ k : Nat, (s.get! (pos + k)).toNat / 64 = 2 → 128 ≤ (s.get! (pos + k)).toNat := fun k hk => by omega
  simp only [Utf8.decode, get_at s pos h, hn, if_false]
  split
  · rename_i hc
    simp only [Bool.and_eq_true, beq_iff_eq, decide_eq_true_eq] at hc
    split
    · refine ⟨by simp; omega, fun j hj => ?_⟩
      match j, hj with
      | 0, _ => exact h0
      | 1, _ => exact key 1 hc.2.2
    · refine ⟨by simp; omega, fun j hj => ?_⟩
      match j, hj with
      | 0, _ => exact h0
  · split
    · rename_i hc
      simp only [Bool.and_eq_true, beq_iff_eq, decide_eq_true_eq] at hc
      split
      · refine ⟨by simp; omega, fun j hj => ?_⟩
        match j, hj with
        | 0, _ => exact h0
        | 1, _ => exact key 1 hc.1.2.2
        | 2, _ => exact key 2 hc.2.2
      · refine ⟨by simp; omega, fun j hj => ?_⟩
        match j, hj with
        | 0, _ => exact h0
    · split
      · rename_i hc
        simp only [Bool.and_eq_true, beq_iff_eq, decide_eq_true_eq] at hc
        split
        · refine ⟨by simp; omega, fun j hj => ?_⟩
          match j, hj with
          | 0, _ => exact h0
          | 1, _ => exact key 1 hc.1.1.2.2
          | 2, _ => exact key 2 hc.1.2.2
          | 3, _ => exact key 3 hc.2.2
        · refine ⟨by simp; omega, fun j hj => ?_⟩
          match j, hj with
          | 0, _ => exact h0
      · refine ⟨by simp; omega, fun j hj => ?_⟩
        match j, hj with
        | 0, _ => exact h0

/-- A string of bytes. -/
abbrev S (l : List UInt8) : ByteArray := ⟨l.toArray⟩
/-- The bytes of a string. -/
abbrev L (s : ByteArray) : List UInt8 := s.data.toList
theorem S_L (s : ByteArray) : S (L s) = s := by cases s; simp
theorem L_len (s : ByteArray) : (L s).length = s.size := Array.length_toList

theorem get_L (s : ByteArray) (i : Nat) (h : i < s.size) : (L s)[i]? = some (s[i]'h) := by
  rw [Array.getElem?_toList]
  exact Array.getElem?_eq_getElem h

theorem drop_cons (s : ByteArray) (i : Nat) (h : i < s.size) : (L s).drop i = (s[i]'h) :: (L s).drop (i + 1) := by
  have hl : i < (L s).length := by rw [L_len]; exact h
  rw [List.drop_eq_getElem_cons hl]
  rfl

/-- Of a rune: the text behind its beginning is its bytes and what is behind. -/
theorem drop_rune (s : ByteArray) (pos : Nat) (h : pos < s.size) (ha : 128 ≤ (s[pos]'h).toNat) :
    ∃ a : List UInt8, (∀ c ∈ a, 128 ≤ c.toNat) ∧ a.length = (Utf8.decode s pos).2 ∧ (L s).drop pos = a ++ (L s).drop (pos + (Utf8.decode s pos).2) := by
  obtain ⟨h1, h2⟩ := decode_bytes s pos h ha
  refine ⟨((L s).drop pos).take (Utf8.decode s pos).2, ?_, ?_, ?_⟩
  · intro c hc
    obtain ⟨j, hj, rfl⟩ := List.mem_iff_getElem.1 hc
    have hj' : j < (Utf8.decode s pos).2 := by simp at hj; omega
    have hlt : pos + j < s.size := by omega
    have := h2 j hj'
    have e : s.get! (pos + j) = s[pos + j]'hlt := by simp [ByteArray.get!, getElem!_pos, hlt]; rfl
    rw [e] at this
    simp only [List.getElem_take, List.getElem_drop, Array.getElem_toList]
    exact this
  · simp only [List.length_take, List.length_drop, L_len]; omega
  · rw [← List.drop_drop, List.take_append_drop]

/-- The scan over a rune that is no letter of ASCII. -/
theorem scan_rune (s : ByteArray) (pos start : Nat) (acc : List (List UInt8)) (h : pos < s.size) (hs : start ≤ pos) (ha : 128 ≤ (s[pos]'h).toNat) :
    scan ((L s).drop (pos + (Utf8.decode s pos).2)) (((L s).drop start).take (pos + (Utf8.decode s pos).2 - start)) acc = scan ((L s).drop pos) (((L s).drop start).take (pos - start)) acc := by
  obtain ⟨a, h1, h2, h3⟩ := drop_rune s pos h ha
  rw [h3, scan_high a _ _ _ (fun c hc => by have := h1 c hc; omega)]
  congr 1
  have e : pos + (Utf8.decode s pos).2 - start = (pos - start) + a.length := by omega
  rw [e, List.take_add, List.drop_drop, show start + (pos - start) = pos by omega, h3, List.take_left']
  rfl

/-- The scan over a letter. -/
theorem scan_letter (s : ByteArray) (pos start : Nat) (acc : List (List UInt8)) (h : pos < s.size) (hs : start ≤ pos) (ha : 32 < (s[pos]'h).toNat) :
    scan ((L s).drop (pos + 1)) (((L s).drop start).take (pos + 1 - start)) acc = scan ((L s).drop pos) (((L s).drop start).take (pos - start)) acc := by
  rw [drop_cons s pos h, scan, if_neg (by omega), if_neg (by omega)]
  congr 1
  have e : pos + 1 - start = (pos - start) + 1 := by omega
  rw [e, List.take_add, List.drop_drop, show start + (pos - start) = pos by omega, drop_cons s pos h]
  rfl

theorem piece_nil (s : ByteArray) (start pos : Nat) (h : pos ≤ s.size) : ((L s).drop start).take (pos - start) = [] ↔ pos ≤ start := by
  rw [← List.length_eq_zero_iff]
  simp only [List.length_take, List.length_drop, L_len]
  omega

theorem scan_space (s : ByteArray) (pos start : Nat) (acc : List (List UInt8)) (h : pos < s.size) (ha : (s[pos]'h).toNat = 32) (hlt : start < pos) :
    scan ((L s).drop (pos + 1)) (((L s).drop (pos + 1)).take (pos + 1 - (pos + 1))) (acc ++ [((L s).drop start).take (pos - start)]) = scan ((L s).drop pos) (((L s).drop start).take (pos - start)) acc := by
  rw [drop_cons s pos h, scan, if_pos ha, if_neg (by rw [piece_nil s start pos (by omega)]; omega)]
  simp

theorem scan_space_no (s : ByteArray) (pos start : Nat) (acc : List (List UInt8)) (h : pos < s.size) (ha : (s[pos]'h).toNat = 32) (hlt : pos ≤ start) :
    scan ((L s).drop pos) (((L s).drop start).take (pos - start)) acc = none := by
  rw [drop_cons s pos h, scan, if_pos ha, if_pos ((piece_nil s start pos (by omega)).2 hlt)]

theorem scan_low (s : ByteArray) (pos start : Nat) (acc : List (List UInt8)) (h : pos < s.size) (ha : (s[pos]'h).toNat < 32) :
    scan ((L s).drop pos) (((L s).drop start).take (pos - start)) acc = none := by
  rw [drop_cons s pos h, scan, if_neg (by omega), if_pos ha]

theorem scan_end (s : ByteArray) (start : Nat) (acc : List (List UInt8)) :
    scan ((L s).drop s.size) (((L s).drop start).take (s.size - start)) acc = if s.size ≤ start then none else some (acc ++ [(L s).drop start]) := by
  have e : (L s).drop s.size = [] := by rw [List.drop_eq_nil_iff, L_len]; omega
  have e2 : ((L s).drop start).take (s.size - start) = (L s).drop start := by rw [List.take_of_length_le]; simp
  rw [e, e2, scan]
  have e3 : (L s).drop start = [] ↔ s.size ≤ start := by rw [List.drop_eq_nil_iff, L_len]
  by_cases h : s.size ≤ start
  · rw [if_pos (e3.2 h), if_pos h]
  · rw [if_neg (fun x => h (e3.1 x)), if_neg h]

theorem extract_S (s : ByteArray) (a b : Nat) : s.extract a b = S (((L s).drop a).take (b - a)) := by
  have := Lib.extract_data s a b
  cases hs : s.extract a b
  rename_i d
  rw [hs] at this
  simp [S, ← this]
theorem append_S (a b : List UInt8) : S a ++ S b = S (a ++ b) := by
  apply ByteArray.ext
  simp [S]
end Go.Proofs.YtinabbdecmjcpaaDoor.Plain
