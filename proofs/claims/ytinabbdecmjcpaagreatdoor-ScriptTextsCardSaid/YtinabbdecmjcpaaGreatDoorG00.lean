/- Plain facts, no program in sight: the words of a line as a scan over its bytes; what a rune's bytes are. Contracts of name.Words, of the reference's Words and Texts: each returns the words of the line by the plain scan, in new memory, and changes nothing that was there. -/
import Derived.Laws.RangeAny
import Derived.Lib.Strings
import Derived.Test.YtinabbdecmjcpaaGreatDoorRows
import Derived.WalkKit
import Derived.ProofKit
import Derived.OpenShut
import Derived.Below
import Derived.WalkLawsBesides
import Derived.WalkSpells
import Derived.WalkSmall
import Derived.Lib.Hide
import Derived.Lib.OthersKept
import Derived.Outline
import Derived.BigQuiet
import Derived.Deep.QuietTactic
namespace Go.Proofs.YtinabbdecmjcpaaGreatDoor.Plain

/-- The words of what is left, behind the word so far and the words so far; none: it is no line. -/
def scan : List UInt8 → List UInt8 → List (List UInt8) → Option (List (List UInt8))
  | [], w, acc => if w = [] then none else some (acc ++ [w])
  | c :: l, w, acc => if c.toNat = 32 then (if w = [] then none else scan l [] (acc ++ [w])) else if c.toNat < 32 then none else scan l (w ++ [c]) acc

/-- The words of a line. -/
def words (l : List UInt8) : Option (List (List UInt8)) := if l = [] then some [] else scan l [] []

theorem scan_high : ∀ (a l w : List UInt8) (acc : List (List UInt8)), (∀ c ∈ a, 32 < c.toNat) → scan (a ++ l) w acc = scan l (w ++ a) acc
  | [], l, w, acc, _ => by simp
  | c :: a, l, w, acc, h => by
    have hc := h c (by simp)
    rw [List.cons_append, scan, if_neg (by omega), if_neg (by omega), scan_high a l (w ++ [c]) acc (fun x hx => h x (by simp [hx]))]
    simp

theorem scan_len : ∀ (l w : List UInt8) (acc r : List (List UInt8)), scan l w acc = some r → r.length ≤ acc.length + l.length + 1
  | [], w, acc, r, h => by
    unfold scan at h
    split at h
    · cases h
    · cases h; simp
  | c :: l, w, acc, r, h => by
    unfold scan at h
    split at h
    · split at h
      · cases h
      · have := scan_len l [] (acc ++ [w]) r h
        simp at this ⊢; omega
    · split at h
      · cases h
      · have := scan_len l (w ++ [c]) acc r h
        simp at this ⊢; omega

/-- A rune that does not begin with a letter of ASCII: its bytes lie in the text, and are none of ASCII's. -/
theorem decode_bytes (s : ByteArray) (pos : Nat) (h : pos < s.size) (ha : 128 ≤ (s[pos]'h).toNat) :
    pos + (Utf8.decode s pos).2 ≤ s.size ∧ ∀ j, j < (Utf8.decode s pos).2 → 128 ≤ (s.get! (pos + j)).toNat := by
  have hn : ¬ (s[pos]'h).toNat < 128 := by omega
  have h0 : 128 ≤ (s.get! (pos + 0)).toNat := by rw [get_at s pos h]; exact ha
  have key : ∀ k : Nat, (s.get! (pos + k)).toNat / 64 = 2 → 128 ≤ (s.get! (pos + k)).toNat := fun k hk => by omega
  simp only [Utf8.decode, get_at s pos h, hn, if_false]
  split
  · rename_i hc
    simp only [Bool.and_eq_true, beq_iff_eq, decide_eq_true_eq] at hc
    split
    · refine ⟨by simp; omega, fun j hj => ?_⟩
      match j, hj with
      | 0, _ => exact h0
      | 1, _ => exact key 1 hc.2.2
    · refine ⟨by simp; omega, fun j hj => ?_⟩
      match j, hj with
      | 0, _ => exact h0
  · split
    · rename_i hc
      simp only [Bool.and_eq_true, beq_iff_eq, decide_eq_true_eq] at hc
      split
      · refine ⟨by simp; omega, fun j hj => ?_⟩
        match j, hj with
        | 0, _ => exact h0
        | 1, _ => exact key 1 hc.1.2.2
        | 2, _ => exact key 2 hc.2.2
      · refine ⟨by simp; omega, fun j hj => ?_⟩
        match j, hj with
        | 0, _ => exact h0
    · split
      · rename_i hc
        simp only [Bool.and_eq_true, beq_iff_eq, decide_eq_true_eq] at hc
        split
        · refine ⟨by simp; omega, fun j hj => ?_⟩
          match j, hj with
          | 0, _ => exact h0
          | 1, _ => exact key 1 hc.1.1.2.2
          | 2, _ => exact key 2 hc.1.2.2
          | 3, _ => exact key 3 hc.2.2
        · refine ⟨by simp; omega, fun j hj => ?_⟩
          match j, hj with
          | 0, _ => exact h0
      · refine ⟨by simp; omega, fun j hj => ?_⟩
        match j, hj with
        | 0, _ => exact h0

/-- A string of bytes. -/
abbrev S (l : List UInt8) : ByteArray := ⟨l.toArray⟩
/-- The bytes of a string. -/
abbrev L (s : ByteArray) : List UInt8 := s.data.toList
theorem S_L (s : ByteArray) : S (L s) = s := by cases s; simp
theorem L_len (s : ByteArray) : (L s).length = s.size := Array.length_toList

theorem get_L (s : ByteArray) (i : Nat) (h : i < s.size) : (L s)[i]? = some (s[i]'h) := by
  rw [Array.getElem?_toList]
  exact Array.getElem?_eq_getElem h

theorem drop_cons (s : ByteArray) (i : Nat) (h : i < s.size) : (L s).drop i = (s[i]'h) :: (L s).drop (i + 1) := by
  have hl : i < (L s).length := by rw [L_len]; exact h
  rw [List.drop_eq_getElem_cons hl]
  rfl

/-- Of a rune: the text behind its beginning is its bytes and what is behind. -/
theorem drop_rune (s : ByteArray) (pos : Nat) (h : pos < s.size) (ha : 128 ≤ (s[pos]'h).toNat) :
    ∃ a : List UInt8, (∀ c ∈ a, 128 ≤ c.toNat) ∧ a.length = (Utf8.decode s pos).2 ∧ (L s).drop pos = a ++ (L s).drop (pos + (Utf8.decode s pos).2) := by
  obtain ⟨h1, h2⟩ := decode_bytes s pos h ha
  refine ⟨((L s).drop pos).take (Utf8.decode s pos).2, ?_, ?_, ?_⟩
  · intro c hc
    obtain ⟨j, hj, rfl⟩ := List.mem_iff_getElem.1 hc
    have hj' : j < (Utf8.decode s pos).2 := by simp at hj; omega
    have hlt : pos + j < s.size := by omega
    have := h2 j hj'
    have e : s.get! (pos + j) = s[pos + j]'hlt := by simp [ByteArray.get!, getElem!_pos, hlt]; rfl
    rw [e] at this
    simp only [List.getElem_take, List.getElem_drop, Array.getElem_toList]
    exact this
  · simp only [List.length_take, List.length_drop, L_len]; omega
  · rw [← List.drop_drop, List.take_append_drop]

/-- The scan over a rune that is no letter of ASCII. -/
theorem scan_rune (s : ByteArray) (pos start : Nat) (acc : List (List UInt8)) (h : pos < s.size) (hs : start ≤ pos) (ha : 128 ≤ (s[pos]'h).toNat) :
    scan ((L s).drop (pos + (Utf8.decode s pos).2)) (((L s).drop start).take (pos + (Utf8.decode s pos).2 - start)) acc = scan ((L s).drop pos) (((L s).drop start).take (pos - start)) acc := by
  obtain ⟨a, h1, h2, h3⟩ := drop_rune s pos h ha
  rw [h3, scan_high a _ _ _ (fun c hc => by have := h1 c hc; omega)]
  congr 1
  have e : pos + (Utf8.decode s pos).2 - start = (pos - start) + a.length := by omega
  rw [e, List.take_add, List.drop_drop, show start + (pos - start) = pos by omega, h3, List.take_left']
  rfl

/-- The scan over a letter. -/
theorem scan_letter (s : ByteArray) (pos start : Nat) (acc : List (List UInt8)) (h : pos < s.size) (hs : start ≤ pos) (ha : 32 < (s[pos]'h).toNat) :
    scan ((L s).drop (pos + 1)) (((L s).drop start).take (pos + 1 - start)) acc = scan ((L s).drop pos) (((L s).drop start).take (pos - start)) acc := by
  rw [drop_cons s pos h, scan, if_neg (by omega), if_neg (by omega)]
  congr 1
  have e : pos + 1 - start = (pos - start) + 1 := by omega
  rw [e, List.take_add, List.drop_drop, show start + (pos - start) = pos by omega, drop_cons s pos h]
  rfl

theorem piece_nil (s : ByteArray) (start pos : Nat) (h : pos ≤ s.size) : ((L s).drop start).take (pos - start) = [] ↔ pos ≤ start := by
  rw [← List.length_eq_zero_iff]
  simp only [List.length_take, List.length_drop, L_len]
  omega

theorem scan_space (s : ByteArray) (pos start : Nat) (acc : List (List UInt8)) (h : pos < s.size) (ha : (s[pos]'h).toNat = 32) (hlt : start < pos) :
    scan ((L s).drop (pos + 1)) (((L s).drop (pos + 1)).take (pos + 1 - (pos + 1))) (acc ++ [((L s).drop start).take (pos - start)]) = scan ((L s).drop pos) (((L s).drop start).take (pos - start)) acc := by
  rw [drop_cons s pos h, scan, if_pos ha, if_neg (by rw [piece_nil s start pos (by omega)]; omega)]
  simp

theorem scan_space_no (s : ByteArray) (pos start : Nat) (acc : List (List UInt8)) (h : pos < s.size) (ha : (s[pos]'h).toNat = 32) (hlt : pos ≤ start) :
    scan ((L s).drop pos) (((L s).drop start).take (pos - start)) acc = none := by
  rw [drop_cons s pos h, scan, if_pos ha, if_pos ((piece_nil s start pos (by omega)).2 hlt)]

theorem scan_low (s : ByteArray) (pos start : Nat) (acc : List (List UInt8)) (h : pos < s.size) (ha : (s[pos]'h).toNat < 32) :
    scan ((L s).drop pos) (((L s).drop start).take (pos - start)) acc = none := by
  rw [drop_cons s pos h, scan, if_neg (by omega), if_pos ha]

theorem scan_end (s : ByteArray) (start : Nat) (acc : List (List UInt8)) :
    scan ((L s).drop s.size) (((L s).drop start).take (s.size - start)) acc = if s.size ≤ start then none else some (acc ++ [(L s).drop start]) := by
  have e : (L s).drop s.size = [] := by rw [List.drop_eq_nil_iff, L_len]; omega
  have e2 : ((L s).drop start).take (s.size - start) = (L s).drop start := by rw [List.take_of_length_le]; simp
  rw [e, e2, scan]
  have e3 : (L s).drop start = [] ↔ s.size ≤ start := by rw [List.drop_eq_nil_iff, L_len]
  by_cases h : s.size ≤ start
  · rw [if_pos (e3.2 h), if_pos h]
  · rw [if_neg (fun x => h (e3.1 x)), if_neg h]

theorem extract_S (s : ByteArray) (a b : Nat) : s.extract a b = S (((L s).drop a).take (b - a)) := by
  have := Lib.extract_data s a b
  cases hs : s.extract a b
  rename_i d
  rw [hs] at this
  simp [S, ← this]
theorem append_S (a b : List UInt8) : S a ++ S b = S (a ++ b) := by
  apply ByteArray.ext
  simp [S]
end Go.Proofs.YtinabbdecmjcpaaGreatDoor.Plain

namespace Go.Proofs.YtinabbdecmjcpaaGreatDoor.Words
open Go.RowKit Go.Proofs.YtinabbdecmjcpaaGreatDoor.Plain
set_option linter.unusedVariables false

theorem info9 : (Tryz.prog.info? 9).map (fun i => (i.zero, i.size, i.bytes)) = some (some (.string ⟨#[]⟩), 1, 16) := by kernel_rfl

/-- A slice of strings in memory of the call's own. -/
def Strs (w : World) (B : Nat) (v : Value) (ws : List (List UInt8)) : Prop := w.ownsRow B 9 1 v ws.length (ws.map fun l => .string (S l))

/-- What Words answers. -/
def WordsPost (r : Option (List (List UInt8))) (w : World) (e : Ending) (w' : World) : Prop :=
  ∃ (v : Value) (n : Int), e = .returned (.tuple #[v, .int .i64 n]) ∧ Below w.heap.size w w' ∧ ((r = none ∧ v = .slice none 0 0 ∧ n = 2) ∨ (∃ ws, r = some ws ∧ n = 0 ∧ Strs w' w.heap.size v ws))

theorem empty_no (s : ByteArray) (h : 0 < s.size) : s.toList.isEmpty = false ∧ (s.toList == []) = false := by
  have : s.toList.length = s.size := by rw [ByteArray.toList_eq]; exact Array.length_toList
  cases hl : s.toList with
  | nil => rw [hl] at this; simp at this; omega
  | cons a l => simp

theorem words_empty (w : World) : Calls Tryz.prog 54 #[.string ⟨#[]⟩] w (WordsPost (words []) w) := by
  go_enter Tryz.func54, Tryz.ntmps54
  go_wp2
  go_ret2
  exact ⟨_, _, rfl, Below.refl _ _, .inr ⟨[], rfl, rfl, World.ownsRow_nil _ _ _ _⟩⟩

theorem lt_of_block {w : World} {k : Nat} {o : Obj} (h : w.heap[k]? = some o) : k < w.heap.size := (Array.getElem?_eq_some_iff.1 h).1

/-- One rune more of the string that is gone through. -/
theorem next_step {P : Program} {w wr : World} {s : ByteArray} {pos B : Nat} {v : Value} {ws : List (List UInt8)} (hp : pos < s.size) (hit : wr.heap[B]? = some (.stringIter s pos)) (hown : Strs wr (B + 1) v ws) (hbel : Below B w wr) :
    ∃ (r k : Nat) (W1 : World), (∀ ty, (Instr.next (.pointer (some ⟨B, 0, none⟩)) true ty).run P wr = .ok (.tuple #[.bool true, .int .i64 pos, .int .i32 r]) W1) ∧ W1.heap[B]? = some (.stringIter s (pos + k)) ∧ Below B w W1 ∧ Strs W1 (B + 1) v ws ∧ 1 ≤ k ∧ r ≤ 2147483647 ∧
      ((32 < r ∧ pos + k ≤ s.size ∧ ∀ start acc, start ≤ pos → scan ((L s).drop (pos + k)) (((L s).drop start).take (pos + k - start)) acc = scan ((L s).drop pos) (((L s).drop start).take (pos - start)) acc) ∨
       (32 < r ∧ k = 1 ∧ ∀ start acc, start ≤ pos → scan ((L s).drop (pos + 1)) (((L s).drop start).take (pos + 1 - start)) acc = scan ((L s).drop pos) (((L s).drop start).take (pos - start)) acc) ∨
       (r = 32 ∧ k = 1 ∧ ∀ start acc, (start < pos → scan ((L s).drop (pos + 1)) (((L s).drop (pos + 1)).take (pos + 1 - (pos + 1))) (acc ++ [((L s).drop start).take (pos - start)]) = scan ((L s).drop pos) (((L s).drop start).take (pos - start)) acc) ∧ (pos ≤ start → scan ((L s).drop pos) (((L s).drop start).take (pos - start)) acc = none)) ∨
       (r < 32 ∧ ∀ start acc, scan ((L s).drop pos) (((L s).drop start).take (pos - start)) acc = none)) := by
  refine ⟨(Utf8.decode s pos).1, (Utf8.decode s pos).2, wr.iterAt B s (pos + (Utf8.decode s pos).2), fun ty => Lib.run_next_any_at wr B s pos ty hit hp, Lib.iterAt_heap wr B s pos _ hit, Lib.below_iterAt hbel (Nat.le_refl _) s _, ownsRow_iterAt hown (by omega) s _, ?_, decode_le s pos, ?_⟩
  · by_cases hc : (s[pos]'hp).toNat < 128
    · rw [decode_ascii s pos hp hc]; exact Nat.le_refl _
    · exact (decode_high s pos hp (by omega)).2
  · by_cases hc : (s[pos]'hp).toNat < 128
    · rw [decode_ascii s pos hp hc]
      dsimp only
      by_cases h1 : 32 < (s[pos]'hp).toNat
      · exact .inr (.inl ⟨h1, rfl, fun start acc h => scan_letter s pos start acc hp h h1⟩)
      · by_cases h2 : (s[pos]'hp).toNat = 32
        · exact .inr (.inr (.inl ⟨h2, rfl, fun start acc => ⟨fun h => scan_space s pos start acc hp h2 h, fun h => scan_space_no s pos start acc hp h2 h⟩⟩))
        · exact .inr (.inr (.inr ⟨by omega, fun start acc => scan_low s pos start acc hp (by omega)⟩))
    · have h1 := decode_high s pos hp (by omega)
      exact .inl ⟨by omega, (decode_bytes s pos hp (by omega)).1, fun start acc h => scan_rune s pos start acc hp h (by omega)⟩

theorem strs_mono {w : World} {B C : Nat} {v : Value} {ws : List (List UInt8)} (h : B ≤ C) (hs : Strs w C v ws) : Strs w B v ws := by
  obtain ⟨h1, h2⟩ := hs
  refine ⟨h1, ?_⟩
  rcases h2 with h2 | ⟨g, cap, cur, a, b, c⟩
  · exact .inl h2
  · exact .inr ⟨g, cap, cur, a, by omega, c⟩

/-- What stands behind an append to the call's own row of strings. -/
theorem after_append {w W1 w3 : World} {o : Obj} {s : ByteArray} {pos B a b : Nat} {v v' : Value} {ws : List (List UInt8)} (hit2 : W1.heap[B]? = some (.stringIter s pos)) (hbel2 : Below B w W1) (hown2 : Strs W1 (B + 1) v ws)
    (hown' : w3.ownsRow (B + 1) 9 1 v' (ws.length + 1) (ws.map (fun l => Value.string (S l)) ++ [.string (s.extract a b)])) (hgrow3 : (W1.alloc o).grownBy w3 v.ownBlock) :
    w3.heap[B]? = some (.stringIter s pos) ∧ Below B w w3 ∧ Strs w3 (B + 1) v' (ws ++ [((L s).drop a).take (b - a)]) := by
  have hBlt := lt_of_block hit2
  refine ⟨?_, Below.grown (hbel2.alloc (by omega) _) hgrow3 (by simp; omega) (fun j hj => by have := (World.ownsRow.lt hown2 _ hj).1; omega), ?_⟩
  · rw [hgrow3.block B (by simp; omega) (fun h => by have := (World.ownsRow.lt hown2 _ h.symm).1; omega), Below.heap_alloc _ _ _ hBlt]
    exact hit2
  · unfold Strs
    rw [extract_S] at hown'
    simpa using hown'

set_option maxRecDepth 100000 in
set_option maxHeartbeats 1000000 in
theorem words_more (s : ByteArray) (w : World) (h0 : 0 < s.size) (hs : s.size ≤ 1000000000000) : Calls Tryz.prog 54 #[.string s] w (WordsPost (scan (L s) [] []) w) := by
  obtain ⟨i0, hi, hz0, hz1, hz2⟩ := info_parts info9
  obtain ⟨e1, e2⟩ := empty_no s h0
  go_enter Tryz.func54, Tryz.ntmps54
  go_wp2
  go_loopw [4, 5] (fun v t wr => ∃ (pos start : Nat) (ws : List (List UInt8)), wr.heap[w.heap.size]? = some (.stringIter s pos) ∧ Strs wr (w.heap.size + 1) v ws ∧ t = .int .i64 start ∧ start ≤ pos ∧ pos ≤ s.size ∧ ws.length ≤ pos ∧ Below w.heap.size w wr ∧ Hid (scan ((L s).drop pos) (((L s).drop start).take (pos - start)) ws = scan (L s) [] [])) (fun _ _ wr => s.size - wr.iterPos w.heap.size)
  case atStart => exact ⟨0, 0, [], World.iter_heap w s 0, World.ownsRow_nil _ _ _ _, rfl, by omega, by omega, by simp, (Below.refl _ _).alloc (Nat.le_refl _) _, Lib.hid (by simp)⟩
  case round =>
    obtain ⟨pos, start, ws, hit, hown, rfl, hst, hps, hwl, hbel, HS⟩ := hrel
    have hpos0 := iterPos_of hit
    by_cases hp : pos < s.size
    · obtain ⟨r, k, W1, hnx, hit2, hbel2, hown2, hk1, hr1, hcase⟩ := next_step (P := Tryz.prog) hp hit hown hbel
      clear hit hown hbel
      have hBlt := lt_of_block hit2
      rcases hcase with ⟨c1, c2, c3⟩ | ⟨c1, rfl, c3⟩ | ⟨rfl, rfl, c3⟩ | ⟨c1, c3⟩
      · have HC := Lib.hid c3
        clear c3
        go_wp2_with fail
        go_roundw
        case rel => exact ⟨pos + k, start, ws, hit2, hown2, rfl, by omega, c2, by omega, hbel2, Lib.hid ((HC.out start ws hst).trans HS.out)⟩
        case measure => rw [iterPos_of hit2, hpos0]; omega
      · have HC := Lib.hid c3
        clear c3
        go_wp2_with fail
        go_roundw
        case rel => exact ⟨pos + 1, start, ws, hit2, hown2, rfl, by omega, by omega, by omega, hbel2, Lib.hid ((HC.out start ws hst).trans HS.out)⟩
        case measure => rw [iterPos_of hit2, hpos0]; omega
      · have HC := Lib.hid c3
        clear c3
        by_cases hlt : start < pos
        · go_wp2_with (at_builtin; refine wpList_append_own _ rfl _ _ 33 rfl (w.heap.size + 1) 9 i0 (.string ⟨#[]⟩) 1 16 Tryz.underlying33 hi hz0 hz1 hz2 rfl (by decide) _ _ _ rfl (World.ownsRow.alloc hown2 _) ⟨W1.heap.size, 0, none⟩ 1 1 [.string (s.extract start pos)] rfl rfl (cell_one_new _ _ _) (fun x hx => by simp at hx; subst hx; rfl) (by unfold maxLen; omega) (by omega) (by simp; omega) ?_; intro v' w3 hown' hgrow3 hnil3)
          obtain ⟨hit3, hbel3, hown3⟩ := after_append hit2 hbel2 hown2 hown' hgrow3
          clear hown' hgrow3 hnil3
          go_roundw
          case rel => exact ⟨pos + 1, pos + 1, ws ++ [((L s).drop start).take (pos - start)], hit3, hown3, by go_num, by omega, by omega, by simp; omega, hbel3, Lib.hid (((HC.out start ws).1 hlt).trans HS.out)⟩
          case measure => rw [iterPos_of hit3, hpos0]; omega
        · go_wp2_with fail
          go_ret2
          exact ⟨_, _, rfl, hbel2, .inl ⟨by rw [← HS.out]; exact (HC.out start ws).2 (by omega), rfl, rfl⟩⟩
      · have HC := Lib.hid c3
        clear c3
        go_wp2_with fail
        go_ret2
        exact ⟨_, _, rfl, hbel2, .inl ⟨by rw [← HS.out]; exact HC.out start ws, rfl, rfl⟩⟩
    · have hnx : ∀ ty, (Instr.next (.pointer (some ⟨w.heap.size, 0, none⟩)) true ty).run Tryz.prog wr = _ := fun ty => Lib.run_next_end_at wr w.heap.size s pos ty hit hp
      obtain rfl : pos = s.size := by omega
      by_cases hlt : start < s.size
      · go_wp2_with (at_builtin; refine wpList_append_own _ rfl _ _ 33 rfl (w.heap.size + 1) 9 i0 (.string ⟨#[]⟩) 1 16 Tryz.underlying33 hi hz0 hz1 hz2 rfl (by decide) _ _ _ rfl (World.ownsRow.alloc hown _) ⟨wr.heap.size, 0, none⟩ 1 1 [.string (s.extract start s.size)] rfl rfl (cell_one_new _ _ _) (fun x hx => by simp at hx; subst hx; rfl) (by unfold maxLen; omega) (by omega) (by have := lt_of_block hit; simp; omega) ?_; intro v' w3 hown' hgrow3 hnil3)
        obtain ⟨_, hbel3, hown3⟩ := after_append hit hbel hown hown' hgrow3
        clear hown' hgrow3 hnil3
        go_ret2
        refine ⟨_, _, rfl, hbel3, .inr ⟨_, by rw [← HS.out, scan_end, if_neg (by omega)], rfl, ?_⟩⟩
        have e3 : ((L s).drop start).take (s.size - start) = (L s).drop start := by rw [List.take_of_length_le]; simp
        rw [e3] at hown3
        exact strs_mono (Nat.le_succ _) hown3
      · obtain rfl : start = s.size := by omega
        go_wp2_with fail
        go_ret2
        exact ⟨_, _, rfl, hbel, .inl ⟨by rw [← HS.out, scan_end, if_pos (by omega)], rfl, rfl⟩⟩

theorem after_append2 {w W1 w3 : World} {o : Obj} {B : Nat} {v v' : Value} {ws : List (List UInt8)} {x : List UInt8} (hsz : B ≤ W1.heap.size) (hbel2 : Below B w W1) (hown2 : Strs W1 B v ws)
    (hown' : w3.ownsRow B 9 1 v' (ws.length + 1) (ws.map (fun l => Value.string (S l)) ++ [.string (S x)])) (hgrow3 : (W1.alloc o).grownBy w3 v.ownBlock) :
    Below B w w3 ∧ B ≤ w3.heap.size ∧ Strs w3 B v' (ws ++ [x]) := by
  have hb := Below.grown (hbel2.alloc (by omega) _) hgrow3 (by simp; omega) (fun j hj => by have := (World.ownsRow.lt hown2 _ hj).1; omega)
  refine ⟨hb, ?_, ?_⟩
  · have := hgrow3.size
    simp at this
    omega
  · unfold Strs
    simpa using hown'

/-- name.Words, of any line. -/
theorem words_any (s : ByteArray) (w : World) (hs : s.size ≤ 1000000000000) : Calls Tryz.prog 54 #[.string s] w (WordsPost (words (L s)) w) := by
  by_cases h : 0 < s.size
  · have e : words (L s) = scan (L s) [] [] := by
      unfold words
      rw [if_neg]
      intro e
      have := L_len s
      rw [e] at this
      simp at this
      omega
    rw [e]
    exact words_more s w h hs
  · have e : s = ⟨#[]⟩ := by
      have := L_len s
      rw [← S_L s, List.length_eq_zero_iff.1 (by omega : (L s).length = 0)]
    subst e
    exact words_empty w

/-- What the reference's Words answers. -/
def RefPost (r : Option (List (List UInt8))) (w : World) (e : Ending) (w' : World) : Prop :=
  ∃ (v : Value) (b : Bool), e = .returned (.tuple #[v, .bool b]) ∧ Below w.heap.size w w' ∧ ((r = none ∧ v = .slice none 0 0 ∧ b = false) ∨ (∃ ws, r = some ws ∧ b = true ∧ Strs w' w.heap.size v ws))

/-- What the reference's loop keeps. -/
def RefRel (s : ByteArray) (B : Nat) (w : World) (v t i : Value) (wr : World) : Prop :=
  ∃ (k : Nat) (wd : List UInt8) (ws : List (List UInt8)), Strs wr B v ws ∧ t = .string (S wd) ∧ i = .int .i64 k ∧ wd.length ≤ k ∧ ws.length ≤ k ∧ Below B w wr ∧ B ≤ wr.heap.size ∧
    ((k ≤ s.size ∧ Hid (scan ((L s).drop k) wd ws = scan (L s) [] [])) ∨ (k = s.size + 1 ∧ Hid (some ws = scan (L s) [] [])))

theorem ref_empty (w : World) : Calls Tryz.prog 62 #[.string ⟨#[]⟩] w (RefPost (words []) w) := by
  go_enter Tryz.func62, Tryz.ntmps62
  go_wp2
  go_ret2
  exact ⟨_, _, rfl, Below.refl _ _, .inr ⟨[], rfl, rfl, World.ownsRow_nil _ _ _ _⟩⟩

set_option maxRecDepth 100000 in
set_option maxHeartbeats 1000000 in
theorem ref_more (s : ByteArray) (w : World) (h0 : 0 < s.size) (hs : s.size ≤ 1000000000000) : Calls Tryz.prog 62 #[.string s] w (RefPost (scan (L s) [] []) w) := by
  obtain ⟨i0, hi, hz0, hz1, hz2⟩ := info_parts info9
  obtain ⟨e1, e2⟩ := empty_no s h0
  go_enter Tryz.func62, Tryz.ntmps62
  go_wp2
  go_loopw [4, 5, 6] (fun v t i wr => RefRel s w.heap.size w v t i wr) (fun _ _ i _ => s.size + 1 - (intOf i).toNat)
  case atStart => exact ⟨0, [], [], World.ownsRow_nil _ _ _ _, rfl, rfl, by simp, by simp, Below.refl _ _, Nat.le_refl _, .inl ⟨by omega, Lib.hid (by simp)⟩⟩
  case round =>
    obtain ⟨k, wd, ws, hown, rfl, rfl, hwd, hwl, hbel, hsz, hcase⟩ := hrel
    rcases hcase with ⟨hk, HS⟩ | ⟨rfl, HS⟩
    · by_cases hlt : k < s.size
      · have hdc := Lib.hid (drop_cons s k hlt)
        have hkb : ((k : Int) == (s.size : Int)) = false := by simp; omega
        by_cases hc : (s[k]'hlt).toNat = 32
        · by_cases hz : wd.isEmpty = true
          · go_wp2_with fail
            go_ret2
            exact ⟨_, _, rfl, hbel, .inl ⟨by rw [← HS.out, hdc.out, scan, if_pos hc, if_pos (List.isEmpty_iff.1 hz)], rfl, rfl⟩⟩
          · have hzf : wd.isEmpty = false := by simpa using hz
            go_wp2_with (at_builtin; refine wpList_append_own _ rfl _ _ 33 rfl w.heap.size 9 i0 (.string ⟨#[]⟩) 1 16 Tryz.underlying33 hi hz0 hz1 hz2 rfl (by decide) _ _ _ rfl (World.ownsRow.alloc hown _) ⟨wr.heap.size, 0, none⟩ 1 1 [.string (S wd)] rfl rfl (cell_one_new _ _ _) (fun x hx => by simp at hx; subst hx; rfl) (by unfold maxLen; omega) (by omega) (by simp; omega) ?_; intro v' w3 hown' hgrow3 hnil3)
            obtain ⟨hbel3, hsz3, hown3⟩ := after_append2 hsz hbel hown hown' hgrow3
            clear hown' hgrow3 hnil3
            go_roundw
            case rel => exact ⟨k + 1, [], ws ++ [wd], hown3, rfl, by go_num, by simp, by simp; omega, hbel3, hsz3, .inl ⟨by omega, Lib.hid (by rw [← HS.out, hdc.out, scan, if_pos hc, if_neg (fun h => hz (List.isEmpty_iff.2 h))])⟩⟩
            case measure => simp [intOf]; omega
        · have hcb : (((s[k]'hlt).toNat : Int) == 32) = false := by simp; omega
          by_cases hc2 : (s[k]'hlt).toNat < 32
          · go_wp2_with fail
            go_ret2
            exact ⟨_, _, rfl, hbel, .inl ⟨by rw [← HS.out, hdc.out, scan, if_neg hc, if_pos hc2], rfl, rfl⟩⟩
          · go_wp2_with fail
            have hcat : S wd ++ s.extract k (k + 1) = S (wd ++ [s[k]'hlt]) := by
              rw [extract_S, append_S, drop_cons s k hlt, show k + 1 - k = 1 by omega]
              rfl
            go_roundw
            case rel => exact ⟨k + 1, wd ++ [s[k]'hlt], ws, hown, by rw [hcat], by go_num, by simp; omega, by omega, hbel, hsz, .inl ⟨by omega, Lib.hid (by rw [← HS.out, hdc.out, scan, if_neg hc, if_neg hc2])⟩⟩
            case measure => simp [intOf]; omega
      · obtain rfl : k = s.size := by omega
        have hend : scan ((L s).drop s.size) wd ws = if wd = [] then none else some (ws ++ [wd]) := by
          rw [show (L s).drop s.size = [] by rw [List.drop_eq_nil_iff, L_len]; omega, scan]
        have HE := Lib.hid hend
        clear hend
        by_cases hz : wd.isEmpty = true
        · go_wp2_with fail
          go_ret2
          exact ⟨_, _, rfl, hbel, .inl ⟨by rw [← HS.out, HE.out, if_pos (List.isEmpty_iff.1 hz)], rfl, rfl⟩⟩
        · have hzf : wd.isEmpty = false := by simpa using hz
          go_wp2_with (at_builtin; refine wpList_append_own _ rfl _ _ 33 rfl w.heap.size 9 i0 (.string ⟨#[]⟩) 1 16 Tryz.underlying33 hi hz0 hz1 hz2 rfl (by decide) _ _ _ rfl (World.ownsRow.alloc hown _) ⟨wr.heap.size, 0, none⟩ 1 1 [.string (S wd)] rfl rfl (cell_one_new _ _ _) (fun x hx => by simp at hx; subst hx; rfl) (by unfold maxLen; omega) (by omega) (by simp; omega) ?_; intro v' w3 hown' hgrow3 hnil3)
          obtain ⟨hbel3, hsz3, hown3⟩ := after_append2 hsz hbel hown hown' hgrow3
          clear hown' hgrow3 hnil3
          go_roundw
          case rel => exact ⟨s.size + 1, [], ws ++ [wd], hown3, rfl, by go_num, by simp, by simp; omega, hbel3, hsz3, .inr ⟨rfl, Lib.hid (by rw [← HS.out, HE.out, if_neg (fun h => hz (List.isEmpty_iff.2 h))])⟩⟩
          case measure => simp [intOf]
    · go_wp2_with fail
      go_ret2
      exact ⟨_, _, rfl, hbel, .inr ⟨ws, HS.out.symm, rfl, hown⟩⟩

/-- The reference's Words, of any line. -/
theorem ref_any (s : ByteArray) (w : World) (hs : s.size ≤ 1000000000000) : Calls Tryz.prog 62 #[.string s] w (RefPost (words (L s)) w) := by
  by_cases h : 0 < s.size
  · have e : words (L s) = scan (L s) [] [] := by
      unfold words
      rw [if_neg]
      intro e
      have := L_len s
      rw [e] at this
      simp at this
      omega
    rw [e]
    exact ref_more s w h hs
  · have e : s = ⟨#[]⟩ := by
      have := L_len s
      rw [← S_L s, List.length_eq_zero_iff.1 (by omega : (L s).length = 0)]
    subst e
    exact ref_empty w

/-- A slice of strings, wherever it lies. -/
def SRow (w : World) (v : Value) (ws : List (List UInt8)) : Prop :=
  (ws = [] ∧ ∃ a cap, v = .slice a 0 cap) ∨ (∃ g o cap, v = .slice (some ⟨g, o, none⟩) ws.length cap ∧ g < w.heap.size ∧ ∀ i (h : i < ws.length), w.cell? ⟨g, o + i, none⟩ = some (.string (S ws[i])))

theorem strs_row {w : World} {B : Nat} {v : Value} {ws : List (List UInt8)} (h : Strs w B v ws) : SRow w v ws := by
  have h' := h
  obtain ⟨h1, h2⟩ := h
  rcases h2 with ⟨rfl, h0⟩ | ⟨g, cap, cur, rfl, hB, hc, hn, hcap, hcz, ht⟩
  · exact .inl ⟨List.length_eq_zero_iff.1 h0, none, 0, rfl⟩
  · refine .inr ⟨g, 0, cap, rfl, lt_of_block hc, fun i hi => ?_⟩
    have := World.ownsRow.cellAt h' i (by simpa using hi)
    rw [Nat.zero_add]
    rw [this]
    simp [hi]

theorem srow_below {w w' : World} {v : Value} {ws : List (List UInt8)} (hb : Below w.heap.size w w') (h : SRow w v ws) : SRow w' v ws := by
  rcases h with h | ⟨g, o, cap, rfl, hg, hc⟩
  · exact .inl h
  · exact .inr ⟨g, o, cap, rfl, Nat.lt_of_lt_of_le hg hb.size, fun i hi => (hb.cell (p := ⟨g, o + i, none⟩) hg).trans (hc i hi)⟩

end Go.Proofs.YtinabbdecmjcpaaGreatDoor.Words
