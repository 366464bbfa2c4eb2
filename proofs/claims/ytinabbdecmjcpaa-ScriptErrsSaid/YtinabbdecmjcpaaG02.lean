/- Plain facts on bytes as digits and back; no program in sight. Events as lines, plainly: words and patterns, the line of an event, the event of a line, and that the two lead back to each other. No program in sight. The lines of a text, plainly; and the contract of strings.Lines: each line is handed on, its end with it, as long as more are wanted. The contracts of strings.CutSuffix at the end of a line, and of strings.Lines itself. Scripts as texts, plainly: what a line does to what was read so far; the setup and the events of a text, or the line that errs. No program in sight. -/
import Derived.Laws.BitsAllLaws
import Derived.RangeFuncNested
import Derived.RangeFuncBound
import Derived.RangeFuncCalls
import Derived.RangeFuncLeaves
import Derived.Shelf.Abstract
import Derived.Shelf.RegionOpen
import Derived.WalkKit
import Derived.OwnWalkIn
import Derived.TacticsInMore
import Derived.LoopNIn
import Derived.LoopIn
import Derived.Lib.Bytealg
import Derived.Test.YtinabbdecmjcpaaG00
import Derived.Test.YtinabbdecmjcpaaG01
namespace Go.Proofs.Ytinabbdecmjcpaa.Plain

/-- The digit of a number below 16. -/
def sg (n : Nat) : UInt8 := if n < 10 then UInt8.ofNat (48 + n) else UInt8.ofNat (87 + n)
/-- Two digits a byte. -/
def two (c : UInt8) : List UInt8 := [sg (c.toNat / 16), sg (c.toNat % 16)]
def hexs (l : List UInt8) : List UInt8 := l.flatMap two
/-- Bytes as digits. -/
def hexOf (l : List UInt8) : List UInt8 := if l = [] then [45] else hexs l
/-- The number of a digit. -/
def nib (n : Nat) : Option Nat := if 48 ≤ n ∧ n ≤ 57 then some (n - 48) else if 97 ≤ n ∧ n ≤ 102 then some (n - 87) else none
/-- The bytes of digits, two by two. -/
def unhex : List UInt8 → Option (List UInt8)
  | [] => some []
  | [_] => none
  | a :: b :: l => match nib a.toNat, nib b.toNat, unhex l with
    | some x, some y, some r => some (UInt8.ofNat (16 * x + y) :: r)
    | _, _, _ => none
/-- The bytes of a text of digits. -/
def bytesOf (l : List UInt8) : Option (List UInt8) := if l = [45] then some [] else if l = [] then none else unhex l

theorem hexs_len : ∀ l : List UInt8, (hexs l).length = 2 * l.length
  | [] => rfl
  | c :: l => by
    have e : hexs (c :: l) = two c ++ hexs l := rfl
    rw [e, List.length_append, hexs_len l]
    simp [two]
    omega
theorem hexs_snoc (l : List UInt8) (c : UInt8) : hexs (l ++ [c]) = hexs l ++ two c := by simp [hexs]

theorem sg_toNat (n : Nat) (h : n < 16) : (sg n).toNat = if n < 10 then 48 + n else 87 + n := by
  unfold sg
  split
  · simp [UInt8.toNat_ofNat']; omega
  · simp [UInt8.toNat_ofNat']; omega
theorem nib_sg (n : Nat) (h : n < 16) : nib (sg n).toNat = some n := by
  rw [sg_toNat n h]
  unfold nib
  split
  · rw [if_pos (by omega)]; congr 1; omega
  · rw [if_neg (by omega), if_pos (by omega)]; congr 1; omega
theorem nib_lt {n x : Nat} (h : nib n = some x) : x < 16 := by
  unfold nib at h
  split at h
  · cases h; omega
  · split at h
    · cases h; omega
    · cases h
theorem sg_nib (c : UInt8) (x : Nat) (h : nib c.toNat = some x) : sg x = c := by
  have hx := nib_lt h
  apply UInt8.toNat_inj.1
  rw [sg_toNat x hx]
  unfold nib at h
  split at h
  · cases h
    split <;> omega
  · split at h
    · cases h
      split <;> omega
    · cases h
theorem sg_ne (n : Nat) (h : n < 16) : (sg n).toNat ≠ 45 := by rw [sg_toNat n h]; split <;> omega

theorem unhex_hexs : ∀ l : List UInt8, unhex (hexs l) = some l
  | [] => rfl
  | c :: l => by
    have ih := unhex_hexs l
    have hc := c.toNat_lt
    have e : hexs (c :: l) = sg (c.toNat / 16) :: sg (c.toNat % 16) :: hexs l := rfl
    rw [e, unhex, nib_sg _ (by omega), nib_sg _ (by omega), ih]
    have : UInt8.ofNat (16 * (c.toNat / 16) + c.toNat % 16) = c := by
      rw [Nat.div_add_mod]; simp
    simp [this]

theorem bytesOf_hexOf (l : List UInt8) : bytesOf (hexOf l) = some l := by
  unfold hexOf
  split
  · rename_i h; subst h; rfl
  · rename_i h
    unfold bytesOf
    cases l with
    | nil => exact absurd rfl h
    | cons c l =>
      have e : hexs (c :: l) = sg (c.toNat / 16) :: sg (c.toNat % 16) :: hexs l := rfl
      rw [if_neg (by rw [e]; simp), if_neg (by rw [e]; simp), unhex_hexs]

theorem hexs_unhex : ∀ (l r : List UInt8), unhex l = some r → hexs r = l
  | [], r, h => by cases h; rfl
  | [_], r, h => by cases h
  | a :: b :: l, r, h => by
    rw [unhex] at h
    split at h
    · rename_i x y r' hx hy hr
      cases h
      have ih := hexs_unhex l r' hr
      have x1 := nib_lt hx
      have y1 := nib_lt hy
      have e : hexs (UInt8.ofNat (16 * x + y) :: r') = sg ((UInt8.ofNat (16 * x + y)).toNat / 16) :: sg ((UInt8.ofNat (16 * x + y)).toNat % 16) :: hexs r' := rfl
      have e2 : (UInt8.ofNat (16 * x + y)).toNat = 16 * x + y := by simp [UInt8.toNat_ofNat']; omega
      rw [e, e2, show (16 * x + y) / 16 = x by omega, show (16 * x + y) % 16 = y by omega, sg_nib a x hx, sg_nib b y hy, ih]
    · cases h

theorem hexOf_bytesOf (l r : List UInt8) (h : bytesOf l = some r) : hexOf r = l := by
  unfold bytesOf at h
  split at h
  · cases h; rename_i e; rw [e]; rfl
  · split at h
    · cases h
    · rename_i h1 h2
      have e := hexs_unhex l r h
      unfold hexOf
      split
      · rename_i e3
        subst e3
        exact absurd e.symm h2
      · exact e

/-- Are a text's bytes digits of bytes? -/
def hexesB (l : List UInt8) : Bool := decide (l = [45]) || (decide (0 < l.length) && decide (l.length % 2 = 0) && l.all (fun c => (nib c.toNat).isSome))

theorem unhex_isSome : ∀ l : List UInt8, (unhex l).isSome = (decide (l.length % 2 = 0) && l.all (fun c => (nib c.toNat).isSome))
  | [] => rfl
  | [_] => by simp [unhex]
  | a :: b :: l => by
    have ih := unhex_isSome l
    rw [unhex]
    have e : decide ((a :: b :: l).length % 2 = 0) = decide (l.length % 2 = 0) := by
      congr 1
      simp only [List.length_cons, eq_iff_iff]
      omega
    rw [e]
    simp only [List.all_cons]
    cases ha : nib a.toNat with
    | none => simp
    | some x =>
      cases hb : nib b.toNat with
      | none => simp
      | some y =>
        cases hr : unhex l with
        | none => rw [hr] at ih; simp at ih; simpa using ih
        | some r => rw [hr] at ih; simp at ih; simpa using ih

theorem hexesB_eq (l : List UInt8) : hexesB l = (bytesOf l).isSome := by
  unfold hexesB bytesOf
  by_cases h1 : l = [45]
  · simp [h1]
  · rw [if_neg h1, decide_eq_false h1, Bool.false_or]
    by_cases h2 : l = []
    · simp [h2]
    · rw [if_neg h2, unhex_isSome, decide_eq_true (by rw [← ne_eq, ← List.length_pos_iff] at h2; exact h2 : 0 < l.length), Bool.true_and]

/-- 'x << 4 | y' on bytes. -/
theorem or_shift (a x : Nat) (ha : a < 16) (hx : x < 16) : bits .or .u8 ((a : Int) * 16) (x : Int) = ((16 * a + x : Nat) : Int) := by
  have h : ∀ a x : Fin 16, bits .or .u8 (((a : Nat) : Int) * 16) ((x : Nat) : Int) = ((16 * (a : Nat) + (x : Nat) : Nat) : Int) := by decide +kernel
  exact h ⟨a, ha⟩ ⟨x, hx⟩
theorem and15 (c : UInt8) : bits .and .u8 (c.toNat : Int) 15 = ((c.toNat % 16 : Nat) : Int) := by
  have h : ∀ c : Fin 256, bits .and .u8 ((c : Nat) : Int) 15 = (((c : Nat) % 16 : Nat) : Int) := by decide +kernel
  exact h ⟨c.toNat, c.toNat_lt⟩
end Go.Proofs.Ytinabbdecmjcpaa.Plain

namespace Go.Proofs.Ytinabbdecmjcpaa.Ev
open Go.Proofs.Ytinabbdecmjcpaa Go.Proofs.Ytinabbdecmjcpaa.Plain Go.Proofs.Ytinabbdecmjcpaa.Named Go.Proofs.Ytinabbdecmjcpaa.Number
open Go.Lib (decDigits)
set_option linter.unusedVariables false

/-! ### Words that are joined -/
def join : List (List UInt8) → List UInt8
  | [] => []
  | [w] => w
  | w :: x :: ws => w ++ 32 :: join (x :: ws)
theorem join_cons (w x : List UInt8) (ws : List (List UInt8)) : join (w :: x :: ws) = w ++ 32 :: join (x :: ws) := rfl
def Good (w : List UInt8) : Prop := w ≠ [] ∧ ∀ c ∈ w, 32 < c.toNat

theorem scan_good (w l : List UInt8) (acc : List (List UInt8)) (h : Good w) : scan (w ++ 32 :: l) [] acc = scan l [] (acc ++ [w]) := by
  rw [scan_high w (32 :: l) [] acc h.2, List.nil_append, scan, if_pos (show UInt8.toNat 32 = 32 by decide), if_neg h.1]
theorem scan_last (w : List UInt8) (acc : List (List UInt8)) (h : Good w) : scan w [] acc = some (acc ++ [w]) := by
  have := scan_high w [] [] acc h.2
  rw [List.append_nil] at this
  rw [this, List.nil_append, scan, if_neg h.1]
theorem scan_join : ∀ (ws : List (List UInt8)) (w : List UInt8) (acc : List (List UInt8)), (∀ x ∈ w :: ws, Good x) → scan (join (w :: ws)) [] acc = some (acc ++ w :: ws)
  | [], w, acc, h => scan_last w acc (h w (by simp))
  | x :: ws, w, acc, h => by
    rw [join_cons, scan_good w _ acc (h w (by simp)), scan_join ws x (acc ++ [w]) (fun y hy => h y (by simp only [List.mem_cons] at hy ⊢; exact .inr hy))]
    simp
theorem join_ne (w : List UInt8) (ws : List (List UInt8)) (h : w ≠ []) : join (w :: ws) ≠ [] := by
  cases ws with
  | nil => exact h
  | cons x ws => rw [join_cons]; intro e; exact h (List.append_eq_nil_iff.1 e).1
/-- The words of what is joined. -/
theorem words_join (w : List UInt8) (ws : List (List UInt8)) (h : ∀ x ∈ w :: ws, Good x) : words (join (w :: ws)) = some (w :: ws) := by
  unfold words
  rw [if_neg (join_ne w ws (h w (by simp)).1), scan_join ws w [] h]
  rfl
theorem scan_back : ∀ (l w : List UInt8) (acc r : List (List UInt8)), scan l w acc = some r → (∀ c ∈ w, 32 < c.toNat) → ∃ x ws, r = acc ++ x :: ws ∧ join (x :: ws) = w ++ l ∧ ∀ y ∈ x :: ws, Good y
  | [], w, acc, r, h, hw => by
    unfold scan at h
    split at h
    · cases h
    · rename_i hn
      cases h
      exact ⟨w, [], rfl, by simp [join], fun y hy => by simp at hy; subst hy; exact ⟨hn, hw⟩⟩
  | c :: l, w, acc, r, h, hw => by
    unfold scan at h
    split at h
    · rename_i h32
      split at h
      · cases h
      · rename_i hn
        obtain ⟨x, ws, e1, e2, e3⟩ := scan_back l [] (acc ++ [w]) r h (by simp)
        refine ⟨w, x :: ws, by simpa using e1, ?_, fun y hy => ?_⟩
        · have hc : c = 32 := UInt8.toNat_inj.1 h32
          rw [join_cons, e2, hc]; rfl
        · rcases List.mem_cons.1 hy with rfl | hy
          · exact ⟨hn, hw⟩
          · exact e3 y hy
    · split at h
      · cases h
      · obtain ⟨x, ws, e1, e2, e3⟩ := scan_back l (w ++ [c]) acc r h (fun d hd => by
          rcases List.mem_append.1 hd with hd | hd
          · exact hw d hd
          · simp at hd; subst hd; omega)
        exact ⟨x, ws, e1, by simpa using e2, e3⟩
theorem words_back (l : List UInt8) (r : List (List UInt8)) (h : words l = some r) : join r = l ∧ ∀ y ∈ r, Good y := by
  unfold words at h
  split at h
  · rename_i e
    cases h
    exact ⟨by rw [e]; rfl, by simp⟩
  · obtain ⟨x, ws, e1, e2, e3⟩ := scan_back l [] [] r h (by simp)
    rw [List.nil_append] at e1 e2
    subst e1
    exact ⟨e2, e3⟩

theorem join_len : ∀ (ws : List (List UInt8)) (x : List UInt8), x ∈ ws → x.length ≤ (join ws).length
  | [], x, h => by simp at h
  | [w], x, h => by simp at h; subst h; exact Nat.le_refl _
  | w :: y :: ws, x, h => by
    rw [join_cons, List.length_append, List.length_cons]
    rcases List.mem_cons.1 h with rfl | h
    · omega
    · have := join_len (y :: ws) x h
      omega

/-- Spaces. -/
def sp (l : List UInt8) : Nat := l.countP (fun c => c == 32)
theorem sp_append (a b : List UInt8) : sp (a ++ b) = sp a + sp b := List.countP_append
theorem sp_cons32 (b : List UInt8) : sp (32 :: b) = sp b + 1 := by unfold sp; rw [List.countP_cons]; simp
theorem sp_good (w : List UInt8) (h : Good w) : sp w = 0 := by
  unfold sp
  rw [List.countP_eq_zero]
  intro c hc e
  have := h.2 c hc
  have e' : c = 32 := by simpa using e
  rw [e'] at this
  exact absurd this (by decide)
def sps (ws : List (List UInt8)) : Nat := (ws.map sp).sum
theorem sp_join : ∀ (ws : List (List UInt8)) (w : List UInt8), sp (join (w :: ws)) = ws.length + sps (w :: ws)
  | [], w => by simp [join, sps]
  | x :: ws, w => by
    rw [join_cons, sp_append, sp_cons32, sp_join ws x]
    simp [sps]; omega
theorem sps_zero (ws : List (List UInt8)) (h : sps ws = 0) : ∀ w ∈ ws, sp w = 0 := by
  induction ws with
  | nil => simp
  | cons w ws ih =>
    simp only [sps, List.map_cons, List.sum_cons] at h
    intro x hx
    rcases List.mem_cons.1 hx with rfl | hx
    · omega
    · exact ih (by unfold sps; omega) x hx
theorem sps_good (ws : List (List UInt8)) (h : ∀ w ∈ ws, Good w) : sps ws = 0 := by
  induction ws with
  | nil => rfl
  | cons w ws ih =>
    have h1 := sp_good w (h w (by simp))
    have h2 := ih (fun x hx => h x (by simp [hx]))
    unfold sps at h2 ⊢
    simp only [List.map_cons, List.sum_cons]
    omega
theorem cut32 : ∀ (a b r r' : List UInt8), sp a = 0 → sp b = 0 → a ++ 32 :: r = b ++ 32 :: r' → a = b ∧ r = r'
  | [], [], r, r', _, _, h => by simpa using h
  | [], c :: b, r, r', _, hb, h => by
    simp only [List.nil_append, List.cons_append, List.cons.injEq] at h
    rw [← h.1, sp_cons32] at hb
    omega
  | c :: a, [], r, r', ha, _, h => by
    simp only [List.nil_append, List.cons_append, List.cons.injEq] at h
    rw [h.1, sp_cons32] at ha
    omega
  | c :: a, d :: b, r, r', ha, hb, h => by
    simp only [List.cons_append, List.cons.injEq] at h
    have ha' : sp a = 0 := by unfold sp at ha ⊢; rw [List.countP_cons] at ha; omega
    have hb' : sp b = 0 := by unfold sp at hb ⊢; rw [List.countP_cons] at hb; omega
    obtain ⟨e1, e2⟩ := cut32 a b r r' ha' hb' h.2
    exact ⟨by rw [h.1, e1], e2⟩
theorem join_inj : ∀ (ws vs : List (List UInt8)), ws.length = vs.length → (∀ w ∈ ws, sp w = 0) → (∀ w ∈ vs, sp w = 0) → join ws = join vs → ws = vs
  | [], [], _, _, _, _ => rfl
  | [], _ :: _, h, _, _, _ => by simp at h
  | _ :: _, [], h, _, _, _ => by simp at h
  | [w], [v], _, _, _, h => by simpa [join] using h
  | [w], _ :: _ :: _, h, _, _, _ => by simp at h
  | _ :: _ :: _, [v], h, _, _, _ => by simp at h
  | w :: x :: ws, v :: y :: vs, hl, h1, h2, h => by
    rw [join_cons, join_cons] at h
    obtain ⟨e1, e2⟩ := cut32 w v _ _ (h1 w (by simp)) (h2 v (by simp)) h
    rw [e1, join_inj (x :: ws) (y :: vs) (by simpa using hl) (fun z hz => h1 z (by simp only [List.mem_cons] at hz ⊢; exact .inr hz)) (fun z hz => h2 z (by simp only [List.mem_cons] at hz ⊢; exact .inr hz)) e2]
/-- Of two lists as long, of which one is the words of what the other makes. -/
theorem words_unique (ws vs : List (List UInt8)) (hl : ws.length = vs.length) (h : words (join vs) = some ws) : ws = vs := by
  obtain ⟨e, hg⟩ := words_back _ _ h
  have h0 := sps_good ws hg
  cases vs with
  | nil => simpa using hl
  | cons v vs =>
    cases ws with
    | nil => simp at hl
    | cons w ws =>
      have h1 := sp_join ws w
      have h2 := sp_join vs v
      rw [e] at h1
      have h3 : sps (v :: vs) = 0 := by simp at hl; omega
      exact join_inj _ _ hl (sps_zero _ h0) (sps_zero _ h3) e

/-! ### Signs and fields -/
structure Fld where
  text : List UInt8
  n : Nat
  data : List UInt8
def fld0 : Fld := ⟨[], 0, []⟩
def known (c : UInt8) : Bool := c == 116 || c == 104 || c == 110 || c == 98 || c == 115
/-- What a word says by a sign, and what is wrong with it. -/
def readF (c : UInt8) (w : List UInt8) : Fld × Nat :=
  if c = 116 then (if namedB 16 smallB lowB w = true then (⟨w, 0, []⟩, 0) else (fld0, 2))
  else if c = 104 then (if namedB 24 markB smallB w = true then (⟨w, 0, []⟩, 0) else (fld0, 2))
  else if c = 98 then (match bytesOf w with | some d => (⟨[], 0, d⟩, 0) | none => (fld0, 2))
  else if c = 110 then (⟨[], (numOf w).1, []⟩, (numOf w).2)
  else if c = 115 then (if (numOf w).2 = 0 ∧ 2147483647 < (numOf w).1 then (fld0, 6) else (⟨[], (numOf w).1, []⟩, (numOf w).2))
  else (fld0, 2)
def signErr (c : UInt8) (w : List UInt8) : Nat := (readF c w).2
/-- The first thing that is wrong with words, by signs. -/
def signs : List UInt8 → List (List UInt8) → Nat
  | c :: p, x :: ws => if signErr c x ≠ 0 then signErr c x else signs p ws
  | _, _ => 0
def fields : List UInt8 → List (List UInt8) → List Fld
  | c :: p, x :: ws => (readF c x).1 :: fields p ws
  | _, _ => []
/-- What is wrong with a line. -/
def checkOf (r : Option (List (List UInt8))) (w p : List UInt8) : Nat :=
  match r with
  | none => 2
  | some ws => if ws.length ≠ p.length + 1 ∨ ws.head? ≠ some w then 2 else signs p ws.tail
/-- The fields of a line. -/
def fieldsOf (r : Option (List (List UInt8))) (p : List UInt8) : List Fld :=
  match r with
  | none => []
  | some ws => fields p ws.tail

/-! ### Events -/
structure Ev where
  kind : Int
  session : Int
  stream : Int
  tenant : ByteArray
  n : Nat
  m : Int
  bits : Nat
  data : List UInt8
def ev0 (k : Int) : Ev := ⟨k, 0, 0, ⟨#[]⟩, 0, 0, 0, []⟩
inductive Slot | session | stream | m | tenant | n | bits | data
def sign : Slot → UInt8
  | .session | .stream | .m => 115
  | .n | .bits => 110
  | .tenant => 116
  | .data => 98
def slotsN : Nat → List Slot
  | 1 => [.m] | 2 => [.session, .data] | 3 => [.session, .data] | 4 => [.session] | 5 => [.session, .stream, .data] | 6 => [.session, .stream]
  | 7 => [.tenant, .bits] | 10 => [.tenant, .n] | 11 => [.tenant, .bits] | 12 => [.tenant] | 13 => [.tenant, .n] | 15 => [.n, .m] | _ => []
def wordN : Nat → List UInt8
  | 1 => [98, 111, 111, 116] | 2 => [99, 111, 110, 110, 101, 99, 116] | 3 => [98, 121, 116, 101, 115] | 4 => [104, 97, 110, 103, 117, 112]
  | 5 => [116, 97, 114, 103, 101, 116] | 6 => [101, 110, 100] | 7 => [112, 105, 99, 107] | 8 => [99, 111, 109, 109, 105, 116] | 9 => [116, 105, 99, 107]
  | 10 => [99, 97, 112] | 11 => [112, 114, 105, 99, 101] | 12 => [99, 108, 111, 115, 101] | 13 => [101, 120, 112, 111, 114, 116] | 14 => [99, 111, 109, 112, 97, 99, 116]
  | 15 => [97, 114, 109] | _ => []
def patN (k : Nat) : List UInt8 := (slotsN k).map sign
def inR (k : Int) : Bool := decide (1 ≤ k) && decide (k ≤ 15)
def wordOf (k : Int) : List UInt8 := if inR k then wordN k.toNat else []
def patOf (k : Int) : List UInt8 := if inR k then patN k.toNat else []
def getT (e : Ev) : Slot → List UInt8
  | .session => decDigits e.session.toNat
  | .stream => decDigits e.stream.toNat
  | .m => decDigits e.m.toNat
  | .tenant => L e.tenant
  | .n => decDigits e.n
  | .bits => decDigits e.bits
  | .data => hexOf e.data
def setF (e : Ev) (f : Fld) : Slot → Ev
  | .session => { e with session := f.n }
  | .stream => { e with stream := f.n }
  | .m => { e with m := f.n }
  | .tenant => { e with tenant := S f.text }
  | .n => { e with n := f.n }
  | .bits => { e with bits := f.n }
  | .data => { e with data := f.data }
def copyF (e x : Ev) : Slot → Ev
  | .session => { x with session := e.session }
  | .stream => { x with stream := e.stream }
  | .m => { x with m := e.m }
  | .tenant => { x with tenant := e.tenant }
  | .n => { x with n := e.n }
  | .bits => { x with bits := e.bits }
  | .data => { x with data := e.data }
/-- The event with just what its line says. -/
def bare (e : Ev) : Ev := (slotsN e.kind.toNat).foldl (copyF e) (ev0 e.kind)
/-- The line. -/
def textOf (e : Ev) : List UInt8 := join (wordN e.kind.toNat :: (slotsN e.kind.toNat).map (getT e))
def sameB (a b : Ev) : Bool := (a.kind == b.kind) && (a.session == b.session) && (a.stream == b.stream) && (a.tenant.toList == b.tenant.toList) && (a.n == b.n) && (a.m == b.m) && (a.bits == b.bits) && decide (a.data = b.data)
theorem sameB_iff (a b : Ev) : sameB a b = true ↔ a = b := by
  constructor
  · intro h
    simp only [sameB, Bool.and_eq_true, beq_iff_eq, decide_eq_true_eq] at h
    obtain ⟨⟨⟨⟨⟨⟨⟨h1, h2⟩, h3⟩, h4⟩, h5⟩, h6⟩, h7⟩, h8⟩ := h
    cases a; cases b
    simp only at h1 h2 h3 h4 h5 h6 h7 h8
    subst h1 h2 h3 h5 h6 h7 h8
    congr 1
    rw [ByteArray.toList_eq, ByteArray.toList_eq] at h4
    have := congrArg (fun l => (⟨l.toArray⟩ : ByteArray)) h4
    exact ByteArray.ext (by simpa using this)
  · rintro rfl; simp [sameB]
/-- The line of an event that may be. -/
def printOf (e : Ev) : Option (List UInt8) :=
  if inR e.kind = false ∨ e.session < 0 ∨ e.stream < 0 ∨ e.m < 0 then none
  else if sameB e (bare e) = false ∨ checkOf (words (textOf e)) (wordN e.kind.toNat) (patN e.kind.toNat) ≠ 0 then none
  else some (textOf e)
/-- The kind of a word; 0: it is none. -/
def kindOf (w : List UInt8) : Nat := ((List.range 15).find? fun i => wordN (i + 1) == w).elim 0 (· + 1)
def putF : Ev → List Slot → List Fld → Ev
  | e, s :: ss, f :: fs => putF (setF e f s) ss fs
  | e, _, _ => e
/-- The first word. -/
def first : Option (List (List UInt8)) → List UInt8
  | some (w :: _) => w
  | _ => []
/-- The event of a line, and what is wrong with it. -/
def parseOf (l : List UInt8) : Ev × Nat :=
  if kindOf (first (words l)) = 0 then (ev0 0, 5)
  else if checkOf (words l) (wordN (kindOf (first (words l)))) (patN (kindOf (first (words l)))) ≠ 0 then (ev0 0, checkOf (words l) (wordN (kindOf (first (words l)))) (patN (kindOf (first (words l)))))
  else (putF (ev0 (kindOf (first (words l)))) (slotsN (kindOf (first (words l)))) (fieldsOf (words l) (patN (kindOf (first (words l))))), 0)
theorem kindOf_word : ∀ k : Fin 16, 1 ≤ k.val → kindOf (wordN k.val) = k.val := by decide +kernel
theorem kindOf_le (w : List UInt8) : kindOf w ≤ 15 := by
  unfold kindOf
  cases h : (List.range 15).find? fun i => wordN (i + 1) == w with
  | none => simp
  | some i =>
    have := List.mem_of_find?_eq_some h
    simp at this ⊢; omega
theorem word_kindOf (w : List UInt8) (h : kindOf w ≠ 0) : wordN (kindOf w) = w := by
  unfold kindOf at h ⊢
  cases hf : (List.range 15).find? fun i => wordN (i + 1) == w with
  | none => rw [hf] at h; simp at h
  | some i =>
    have := List.find?_some hf
    simpa using this

/-! ### A line that is printed is read as its event -/
theorem err_n (w : List UInt8) : (readF 110 w) = (⟨[], (numOf w).1, []⟩, (numOf w).2) := by simp [readF]
theorem err_s (w : List UInt8) (h : signErr 115 w = 0) : (readF 115 w) = (⟨[], (numOf w).1, []⟩, 0) ∧ (numOf w).2 = 0 ∧ (numOf w).1 ≤ 2147483647 := by
  unfold signErr readF at h
  unfold readF
  simp only [show ¬ (115 : UInt8) = 116 by decide, show ¬ (115 : UInt8) = 104 by decide, show ¬ (115 : UInt8) = 98 by decide, show ¬ (115 : UInt8) = 110 by decide, if_false, if_true] at h ⊢
  split at h
  · cases h
  · rename_i hc
    have h2 : (numOf w).2 = 0 := h
    rw [if_neg hc, h2]
    exact ⟨rfl, rfl, by omega⟩
theorem err_t (w : List UInt8) (h : signErr 116 w = 0) : readF 116 w = (⟨w, 0, []⟩, 0) ∧ namedB 16 smallB lowB w = true := by
  unfold signErr readF at h
  unfold readF
  simp only [if_true] at h ⊢
  split at h
  · rename_i hc; exact ⟨by rw [if_pos hc], hc⟩
  · cases h
theorem err_b (w : List UInt8) (h : signErr 98 w = 0) : ∃ d, readF 98 w = (⟨[], 0, d⟩, 0) ∧ bytesOf w = some d := by
  unfold signErr readF at h
  unfold readF
  simp only [show ¬ (98 : UInt8) = 116 by decide, show ¬ (98 : UInt8) = 104 by decide, if_false, if_true] at h ⊢
  cases hb : bytesOf w with
  | none => rw [hb] at h; cases h
  | some d => exact ⟨d, rfl, rfl⟩
theorem signs_cons (c : UInt8) (p : List UInt8) (x : List UInt8) (ws : List (List UInt8)) (h : signs (c :: p) (x :: ws) = 0) : signErr c x = 0 ∧ signs p ws = 0 := by
  unfold signs at h
  split at h
  · rename_i hc; exact absurd h hc
  · rename_i hc; exact ⟨by simpa using hc, h⟩

/-- The numbers of an event that came in are numbers of their types. -/
structure Fits (e : Ev) : Prop where
  session : e.session ≤ 9223372036854775807
  stream : e.stream ≤ 9223372036854775807
  m : e.m ≤ 9223372036854775807
  n : e.n < 18446744073709551616
  bits : e.bits < 18446744073709551616

/-- What a slot's text is read as, by its sign. -/
theorem read_slot (e x : Ev) (s : Slot) (hf : Fits e) (h0 : 0 ≤ e.session) (h1 : 0 ≤ e.stream) (h2 : 0 ≤ e.m) (h : signErr (sign s) (getT e s) = 0) : setF x (readF (sign s) (getT e s)).1 s = copyF e x s := by
  have hd : ∀ k : Nat, k < 18446744073709551616 → (numOf (decDigits k)).1 = k := fun k hk => by rw [num_dec k hk]
  cases s
  · show { x with session := ((readF 115 (decDigits e.session.toNat)).1.n : Int) } = { x with session := e.session }
    rw [(err_s (decDigits e.session.toNat) h).1]
    show { x with session := ((numOf (decDigits e.session.toNat)).1 : Int) } = _
    rw [hd _ (by have := hf.session; omega)]
    congr 1; omega
  · show { x with stream := ((readF 115 (decDigits e.stream.toNat)).1.n : Int) } = { x with stream := e.stream }
    rw [(err_s (decDigits e.stream.toNat) h).1]
    show { x with stream := ((numOf (decDigits e.stream.toNat)).1 : Int) } = _
    rw [hd _ (by have := hf.stream; omega)]
    congr 1; omega
  · show { x with m := ((readF 115 (decDigits e.m.toNat)).1.n : Int) } = { x with m := e.m }
    rw [(err_s (decDigits e.m.toNat) h).1]
    show { x with m := ((numOf (decDigits e.m.toNat)).1 : Int) } = _
    rw [hd _ (by have := hf.m; omega)]
    congr 1; omega
  · show { x with tenant := S (readF 116 (L e.tenant)).1.text } = { x with tenant := e.tenant }
    rw [(err_t (L e.tenant) h).1]
  · show { x with n := (readF 110 (decDigits e.n)).1.n } = { x with n := e.n }
    rw [err_n]
    show { x with n := (numOf (decDigits e.n)).1 } = _
    rw [hd _ hf.n]
  · show { x with bits := (readF 110 (decDigits e.bits)).1.n } = { x with bits := e.bits }
    rw [err_n]
    show { x with bits := (numOf (decDigits e.bits)).1 } = _
    rw [hd _ hf.bits]
  · obtain ⟨d, e1, e2⟩ := err_b _ h
    show { x with data := (readF 98 (hexOf e.data)).1.data } = { x with data := e.data }
    rw [show readF 98 (hexOf e.data) = (⟨[], 0, d⟩, 0) from e1]
    have : bytesOf (hexOf e.data) = some d := e2
    rw [bytesOf_hexOf] at this
    rw [Option.some.inj this]
theorem read_slots (e : Ev) (hf : Fits e) (h0 : 0 ≤ e.session) (h1 : 0 ≤ e.stream) (h2 : 0 ≤ e.m) : ∀ (ss : List Slot) (x : Ev), signs (ss.map sign) (ss.map (getT e)) = 0 → putF x ss (fields (ss.map sign) (ss.map (getT e))) = ss.foldl (copyF e) x
  | [], x, _ => rfl
  | s :: ss, x, h => by
    obtain ⟨a, b⟩ := signs_cons _ _ _ _ h
    show putF (setF x (readF (sign s) (getT e s)).1 s) ss (fields (ss.map sign) (ss.map (getT e))) = ss.foldl (copyF e) (copyF e x s)
    rw [read_slot e x s hf h0 h1 h2 a]
    exact read_slots e hf h0 h1 h2 ss _ b
theorem kind_copy (e : Ev) : ∀ (ss : List Slot) (x : Ev), (ss.foldl (copyF e) x).kind = x.kind
  | [], x => rfl
  | s :: ss, x => by
    show (ss.foldl (copyF e) (copyF e x s)).kind = x.kind
    rw [kind_copy e ss]
    cases s <;> rfl
theorem print_parts (e : Ev) (s : List UInt8) (h : printOf e = some s) : inR e.kind = true ∧ 0 ≤ e.session ∧ 0 ≤ e.stream ∧ 0 ≤ e.m ∧ e = bare e ∧ checkOf (words (textOf e)) (wordN e.kind.toNat) (patN e.kind.toNat) = 0 ∧ s = textOf e := by
  unfold printOf at h
  split at h
  · cases h
  · rename_i h1
    split at h
    · cases h
    · rename_i h2
      have hr : inR e.kind = true := by cases hx : inR e.kind; exact absurd (.inl hx) h1; rfl
      have hs : sameB e (bare e) = true := by cases hx : sameB e (bare e); exact absurd (.inl hx) h2; rfl
      exact ⟨hr, by omega, by omega, by omega, (sameB_iff _ _).1 hs, by
        cases hc : checkOf (words (textOf e)) (wordN e.kind.toNat) (patN e.kind.toNat) with
        | zero => rfl
        | succ n => exact absurd (.inr (by rw [hc]; simp)) h2, (Option.some.inj h).symm⟩
theorem inR_nat {k : Int} (h : inR k = true) : ∃ j : Nat, k = j ∧ 1 ≤ j ∧ j ≤ 15 := by
  simp [inR] at h
  exact ⟨k.toNat, by omega, by omega, by omega⟩
theorem pat_len (k : Nat) : (patN k).length = (slotsN k).length := by simp [patN]
theorem parse_print (e : Ev) (s : List UInt8) (hf : Fits e) (h : printOf e = some s) : parseOf s = (e, 0) := by
  obtain ⟨hr, h0, h1, h2, hb, hc, rfl⟩ := print_parts e s h
  obtain ⟨j, hj, j1, j2⟩ := inR_nat hr
  have hjn : e.kind.toNat = j := by omega
  have ht : textOf e = join (wordN j :: (slotsN j).map (getT e)) := by unfold textOf; rw [hjn]
  rw [hjn] at hc
  have hw : words (textOf e) = some (wordN j :: (slotsN j).map (getT e)) := by
    cases hx : words (textOf e) with
    | none => rw [hx] at hc; cases hc
    | some ws =>
      rw [hx] at hc
      unfold checkOf at hc
      simp only at hc
      split at hc
      · cases hc
      · rename_i hn
        have hl : ws.length = (wordN j :: (slotsN j).map (getT e)).length := by
          have : ws.length = (patN j).length + 1 := by
            by_cases x : ws.length = (patN j).length + 1
            · exact x
            · exact absurd (.inl x) hn
          rw [this, pat_len]; simp
        rw [ht] at hx
        rw [words_unique ws _ hl hx]
  have hk : kindOf (wordN j) = j := kindOf_word ⟨j, by omega⟩ j1
  unfold parseOf
  rw [hw] at hc ⊢
  rw [show first (some (wordN j :: (slotsN j).map (getT e))) = wordN j from rfl, hk, if_neg (by omega), if_neg (by rw [hc]; simp)]
  congr 1
  unfold checkOf at hc
  simp only at hc
  split at hc
  · cases hc
  · show putF (ev0 j) (slotsN j) (fields (patN j) ((slotsN j).map (getT e))) = e
    rw [show patN j = (slotsN j).map sign from rfl, read_slots e hf h0 h1 h2 (slotsN j) (ev0 j) hc]
    have hb' := hb.symm
    unfold bare at hb'
    rw [hjn, hj] at hb'
    exact hb'

/-! ### A line that is read is its event's -/
theorem getT_other (x : Ev) (f : Fld) (s t : Slot) (h : s ≠ t) : getT (setF x f s) t = getT x t := by
  cases s <;> cases t <;> first | rfl | exact absurd rfl h
theorem getT_put : ∀ (ss : List Slot) (fs : List Fld) (x : Ev) (t : Slot), t ∉ ss → getT (putF x ss fs) t = getT x t
  | [], fs, x, t, _ => by cases fs <;> rfl
  | s :: ss, [], x, t, _ => rfl
  | s :: ss, f :: fs, x, t, h => by
    show getT (putF (setF x f s) ss fs) t = _
    rw [getT_put ss fs _ t (fun e => h (by simp [e])), getT_other x f s t (fun e => h (by simp [e]))]
theorem getT_self (x : Ev) (s : Slot) (w : List UInt8) (h : signErr (sign s) w = 0) : getT (setF x (readF (sign s) w).1 s) s = w := by
  have hnum : ∀ v : List UInt8, (numOf v).2 = 0 → decDigits (numOf v).1 = v := fun v hv => (dec_num v (numOf v).1 (by rw [← hv])).1
  cases s
  · obtain ⟨a, b, _⟩ := err_s w h
    show decDigits ((readF 115 w).1.n : Int).toNat = w
    rw [a]
    exact hnum w b
  · obtain ⟨a, b, _⟩ := err_s w h
    show decDigits ((readF 115 w).1.n : Int).toNat = w
    rw [a]
    exact hnum w b
  · obtain ⟨a, b, _⟩ := err_s w h
    show decDigits ((readF 115 w).1.n : Int).toNat = w
    rw [a]
    exact hnum w b
  · show L (S (readF 116 w).1.text) = w
    rw [(err_t w h).1]
  · show decDigits (readF 110 w).1.n = w
    rw [err_n]
    exact hnum w (by have : (readF 110 w).2 = 0 := h; rw [err_n] at this; exact this)
  · show decDigits (readF 110 w).1.n = w
    rw [err_n]
    exact hnum w (by have : (readF 110 w).2 = 0 := h; rw [err_n] at this; exact this)
  · obtain ⟨d, a, b⟩ := err_b w h
    show hexOf (readF 98 w).1.data = w
    rw [a]
    exact hexOf_bytesOf w d b
theorem put_texts : ∀ (ss : List Slot) (xs : List (List UInt8)) (x : Ev), ss.Nodup → xs.length = ss.length → signs (ss.map sign) xs = 0 → ss.map (getT (putF x ss (fields (ss.map sign) xs))) = xs
  | [], [], x, _, _, _ => rfl
  | [], _ :: _, x, _, h, _ => by simp at h
  | _ :: _, [], x, _, h, _ => by simp at h
  | s :: ss, w :: xs, x, hn, hl, h => by
    obtain ⟨a, b⟩ := signs_cons _ _ _ _ h
    rw [List.nodup_cons] at hn
    show getT (putF (setF x (readF (sign s) w).1 s) ss (fields (ss.map sign) xs)) s :: ss.map (getT (putF (setF x (readF (sign s) w).1 s) ss (fields (ss.map sign) xs))) = w :: xs
    rw [getT_put ss _ _ s hn.1, getT_self x s w a, put_texts ss xs _ hn.2 (by simpa using hl) b]
theorem copyF_put : ∀ (ss : List Slot) (fs : List Fld) (y x : Ev) (s : Slot), s ∉ ss → copyF (putF y ss fs) x s = copyF y x s
  | [], fs, y, x, s, _ => by cases fs <;> rfl
  | t :: ss, [], y, x, s, _ => rfl
  | t :: ss, f :: fs, y, x, s, h => by
    show copyF (putF (setF y f t) ss fs) x s = _
    rw [copyF_put ss fs _ x s (fun e => h (by simp [e]))]
    have hne : t ≠ s := fun e => h (by simp [e])
    cases s <;> cases t <;> first | rfl | exact absurd rfl hne
theorem copyF_self (x : Ev) (f : Fld) (s : Slot) : copyF (setF x f s) x s = setF x f s := by cases s <;> rfl
theorem bare_put : ∀ (ss : List Slot) (fs : List Fld) (x : Ev), ss.Nodup → fs.length = ss.length → ss.foldl (copyF (putF x ss fs)) x = putF x ss fs
  | [], [], x, _, _ => rfl
  | [], _ :: _, x, _, h => by simp at h
  | _ :: _, [], x, _, h => by simp at h
  | s :: ss, f :: fs, x, hn, hl => by
    rw [List.nodup_cons] at hn
    show ss.foldl (copyF (putF (setF x f s) ss fs)) (copyF (putF (setF x f s) ss fs) x s) = putF (setF x f s) ss fs
    rw [copyF_put ss fs _ x s hn.1, copyF_self]
    exact bare_put ss fs _ hn.2 (by simpa using hl)
theorem kind_put : ∀ (ss : List Slot) (fs : List Fld) (x : Ev), (putF x ss fs).kind = x.kind
  | [], fs, x => by cases fs <;> rfl
  | s :: ss, [], x => rfl
  | s :: ss, f :: fs, x => by
    show (putF (setF x f s) ss fs).kind = _
    rw [kind_put ss fs]
    cases s <;> rfl
theorem nonneg_put : ∀ (ss : List Slot) (fs : List Fld) (x : Ev), 0 ≤ x.session → 0 ≤ x.stream → 0 ≤ x.m → 0 ≤ (putF x ss fs).session ∧ 0 ≤ (putF x ss fs).stream ∧ 0 ≤ (putF x ss fs).m
  | [], fs, x, a, b, c => by cases fs <;> exact ⟨a, b, c⟩
  | s :: ss, [], x, a, b, c => ⟨a, b, c⟩
  | s :: ss, f :: fs, x, a, b, c => by
    show 0 ≤ (putF (setF x f s) ss fs).session ∧ 0 ≤ (putF (setF x f s) ss fs).stream ∧ 0 ≤ (putF (setF x f s) ss fs).m
    have hz : (0 : Int) ≤ (f.n : Int) := by omega
    refine nonneg_put ss fs (setF x f s) ?_ ?_ ?_ <;> cases s <;> first | exact a | exact b | exact c | exact hz
theorem fields_len : ∀ (p : List UInt8) (xs : List (List UInt8)), xs.length = p.length → (fields p xs).length = p.length
  | [], [], _ => rfl
  | [], _ :: _, h => by simp at h
  | _ :: _, [], h => by simp at h
  | c :: p, x :: xs, h => by simp [fields, fields_len p xs (by simpa using h)]
theorem slots_nodup (k : Nat) : (slotsN k).Nodup := by
  unfold slotsN
  split <;> simp
/-- What a line is whose check finds nothing. -/
theorem check_zero (r : Option (List (List UInt8))) (w p : List UInt8) (h : checkOf r w p = 0) : ∃ xs, r = some (w :: xs) ∧ xs.length = p.length ∧ signs p xs = 0 := by
  unfold checkOf at h
  cases r with
  | none => cases h
  | some ws =>
    simp only at h
    split at h
    · cases h
    · rename_i hn
      have h1 : ws.length = p.length + 1 := by
        by_cases x : ws.length = p.length + 1
        · exact x
        · exact absurd (.inl x) hn
      have h2 : ws.head? = some w := by
        by_cases x : ws.head? = some w
        · exact x
        · exact absurd (.inr x) hn
      cases ws with
      | nil => cases h2
      | cons v xs =>
        cases Option.some.inj h2
        exact ⟨xs, rfl, by simpa using h1, h⟩
theorem print_parse (l : List UInt8) (e : Ev) (h : parseOf l = (e, 0)) : printOf e = some l := by
  unfold parseOf at h
  split at h
  · cases h
  · rename_i hk
    split at h
    · rename_i hc; exact absurd (congrArg Prod.snd h) hc
    · rename_i hc
      have he := (congrArg Prod.fst h).symm
      simp only at he
      clear h
      have hc0 : checkOf (words l) (wordN (kindOf (first (words l)))) (patN (kindOf (first (words l)))) = 0 := by simpa using hc
      obtain ⟨xs, hw, hl, hsg⟩ := check_zero _ _ _ hc0
      generalize hkk : kindOf (first (words l)) = k at *
      have hk15 : k ≤ 15 := by rw [← hkk]; exact kindOf_le _
      have hf : fieldsOf (words l) (patN k) = fields (patN k) xs := by rw [hw]; rfl
      rw [hf] at he
      have hn := slots_nodup k
      have hkind : e.kind = k := by rw [he, kind_put]; rfl
      have hjn : e.kind.toNat = k := by omega
      have hnn := nonneg_put (slotsN k) (fields (patN k) xs) (ev0 k) (Int.le_refl 0) (Int.le_refl 0) (Int.le_refl 0)
      rw [← he] at hnn
      have hlen : xs.length = (slotsN k).length := by rw [hl, pat_len]
      have htx : (slotsN k).map (getT e) = xs := by rw [he]; exact put_texts (slotsN k) xs (ev0 k) hn hlen hsg
      have hbare : bare e = e := by
        unfold bare
        rw [hjn, hkind]
        have := bare_put (slotsN k) (fields (patN k) xs) (ev0 k) hn (by rw [fields_len _ _ hl, pat_len])
        rw [← he] at this
        exact this
      have htext : textOf e = l := by
        unfold textOf
        rw [hjn, htx]
        exact (words_back l _ hw).1
      unfold printOf
      rw [if_neg, if_neg, htext]
      · rintro (h | h)
        · rw [hbare, (sameB_iff e e).2 rfl] at h; cases h
        · rw [htext, hjn] at h; exact h hc0
      · rintro (h | h | h | h)
        · have : inR e.kind = true := by rw [hkind]; simp [inR]; omega
          rw [this] at h; cases h
        · omega
        · omega
        · omega
end Go.Proofs.Ytinabbdecmjcpaa.Ev

namespace Go.Proofs.Ytinabbdecmjcpaa.Script
open Go.RowKit Go.Shelf Go.Proofs.Ytinabbdecmjcpaa.Plain Go.Proofs.Ytinabbdecmjcpaa.Words
attribute [local go_sem] Oper.semAt_some
set_option linter.unusedVariables false

/-! ### Plainly -/
def lnAux : List UInt8 → List UInt8 → List (List UInt8)
  | cur, [] => if cur = [] then [] else [cur]
  | cur, c :: l => if c = 10 then (cur ++ [c]) :: lnAux [] l else lnAux (cur ++ [c]) l
/-- The lines of a text, each with its end. -/
def linesOf (l : List UInt8) : List (List UInt8) := lnAux [] l
theorem lnAux_app : ∀ (a l cur : List UInt8), 10 ∉ a → lnAux cur (a ++ l) = lnAux (cur ++ a) l
  | [], l, cur, _ => by simp
  | c :: a, l, cur, h => by
    simp only [List.mem_cons, not_or] at h
    rw [List.cons_append, lnAux, if_neg (fun e => h.1 e.symm), lnAux_app a l (cur ++ [c]) h.2]
    simp
theorem lines_cut (a r : List UInt8) (h : 10 ∉ a) : linesOf (a ++ 10 :: r) = (a ++ [10]) :: linesOf r := by
  unfold linesOf
  rw [lnAux_app a _ [] h, lnAux, if_pos rfl]
  simp
theorem lines_last (l : List UInt8) (h : 10 ∉ l) (hn : l ≠ []) : linesOf l = [l] := by
  unfold linesOf
  have := lnAux_app l [] [] h
  rw [List.append_nil] at this
  rw [this, lnAux, List.nil_append, if_neg hn]
theorem index_none : ∀ (l : List UInt8), 10 ∉ l → Lib.indexByte l 10 = -1
  | [], _ => rfl
  | c :: l, h => by
    simp only [List.mem_cons, not_or] at h
    unfold Lib.indexByte
    rw [if_neg (by simp; exact fun e => h.1 e.symm), index_none l h.2]
    rfl
theorem index_some : ∀ (l : List UInt8), 10 ∈ l → ∃ (i : Nat) (a r : List UInt8), Lib.indexByte l 10 = (i : Int) ∧ l = a ++ 10 :: r ∧ a.length = i ∧ 10 ∉ a
  | [], h => by simp at h
  | c :: l, h => by
    by_cases hc : c = 10
    · subst hc
      exact ⟨0, [], l, rfl, rfl, rfl, by simp⟩
    · have hl : 10 ∈ l := by
        rcases List.mem_cons.1 h with e | e
        · exact absurd e.symm hc
        · exact e
      obtain ⟨i, a, r, e1, e2, e3, e4⟩ := index_some l hl
      refine ⟨i + 1, c :: a, r, ?_, by rw [e2]; rfl, by simp [e3], by simp only [List.mem_cons, not_or]; exact ⟨fun e => hc e.symm, e4⟩⟩
      unfold Lib.indexByte
      rw [if_neg (by simpa using hc), e1, if_neg (by rw [beq_iff_eq]; omega)]
      omega
/-- The first line of a text that has an end, and the rest. -/
theorem cut_first (t : ByteArray) (h : 10 ∈ L t) : ∃ i : Nat, Lib.indexByte (L t) 10 = (i : Int) ∧ i + 1 ≤ t.size ∧ linesOf (L t) = L (t.extract 0 (i + 1)) :: linesOf (L (t.extract (i + 1) t.size)) ∧ (t.extract (i + 1) t.size).size < t.size := by
  obtain ⟨i, a, r, e1, e2, e3, e4⟩ := index_some (L t) h
  have hl : (L t).length = t.size := L_len t
  rw [e2] at hl
  simp at hl
  refine ⟨i, e1, by omega, ?_, by simp [ByteArray.size_extract]; omega⟩
  rw [extract_S, extract_S, show L (S (((L t).drop 0).take (i + 1 - 0))) = ((L t).drop 0).take (i + 1 - 0) from rfl, show L (S (((L t).drop (i + 1)).take (t.size - (i + 1)))) = ((L t).drop (i + 1)).take (t.size - (i + 1)) from rfl]
  rw [e2, lines_cut a r e4]
  have h1 : ((a ++ 10 :: r).drop 0).take (i + 1 - 0) = a ++ [10] := by
    rw [List.drop_zero, Nat.sub_zero, show a ++ 10 :: r = (a ++ [10]) ++ r by simp, List.take_left' (by simp [e3])]
  have h2 : ((a ++ 10 :: r).drop (i + 1)).take (t.size - (i + 1)) = r := by
    rw [show a ++ 10 :: r = (a ++ [10]) ++ r by simp, List.drop_left' (by simp [e3]), List.take_of_length_le (by omega)]
  rw [h1, h2]

theorem lnAux_len : ∀ (l cur : List UInt8), (∀ x ∈ lnAux cur l, x.length ≤ cur.length + l.length) ∧ (lnAux cur l).length ≤ cur.length + l.length
  | [], cur => by
    unfold lnAux
    split
    · simp
    · rename_i h
      have : 0 < cur.length := List.length_pos_iff.2 h
      refine ⟨fun x hx => ?_, ?_⟩
      · simp at hx; subst hx; simp
      · simp; omega
  | c :: l, cur => by
    unfold lnAux
    split
    · obtain ⟨h1, h2⟩ := lnAux_len l []
      refine ⟨fun x hx => ?_, ?_⟩
      · rcases List.mem_cons.1 hx with rfl | hx
        · (try simp) <;> (try omega)
        · have := h1 x hx; simp at this ⊢; omega
      · simp at h2 ⊢; omega
    · obtain ⟨h1, h2⟩ := lnAux_len l (cur ++ [c])
      refine ⟨fun x hx => ?_, ?_⟩
      · have := h1 x hx; simp at this ⊢; omega
      · simp at h2 ⊢; omega
theorem lines_len (l : List UInt8) : (∀ x ∈ linesOf l, x.length ≤ l.length) ∧ (linesOf l).length ≤ l.length := by
  have := lnAux_len l []
  simpa [linesOf] using this

/-! ### strings.IndexByte -/
set_option maxRecDepth 100000 in
set_option maxHeartbeats 1000000 in
theorem index99 (s : ByteArray) (w : World) : Calls Try.prog 99 #[.string s, .int .u8 10] w fun e w' => e = .returned (.int .i64 (Lib.indexByte (L s) 10)) ∧ w = w' := by
  go_enter Try.func99, Try.ntmps99
  go_wp2
  rw [run_callFunc_extern Try.func108 (by kernel_rfl) (by kernel_rfl) (by kernel_rfl) (e := Extern.BytealgIndexByte.indexByte) (by kernel_rfl), Lib.run_indexByteString]
  simp only [Result.andThen]
  rw [Oper.upon_value]
  go_wp2
  go_ret
  exact ⟨rfl, rfl⟩
theorem index89 (s : ByteArray) (w : World) : Calls Try.prog 89 #[.string s, .int .u8 10] w fun e w' => e = .returned (.int .i64 (Lib.indexByte (L s) 10)) ∧ w = w' := by
  have h := Lib.hid (index99 s w)
  generalize Lib.indexByte (L s) 10 = r at *
  go_enter Try.func89, Try.ntmps89
  go_wp2_with fail
  refine h.out.mono ?_
  rintro e w2 ⟨rfl, rfl⟩
  go_wp2
  go_ret
  exact ⟨rfl, rfl⟩

/-! ### strings.Lines -/
theorem no_depth {n : Nat} : Fence.wide.depth.isSome = true → 1 ≤ n := fun h => by simp [Fence.wide] at h
def restLen (B : Nat) (w : World) : Nat := match w.cell? ⟨B, 0, none⟩ with | some (.string t) => t.size | _ => 0
theorem restLen_of {B : Nat} {w : World} {t : ByteArray} (h : w.cell? ⟨B, 0, none⟩ = some (.string t)) : restLen B w = t.size := by unfold restLen; rw [h]
set_option maxRecDepth 100000 in
set_option maxHeartbeats 4000000 in
theorem lines1_in (n : Nat) (l B : Nat) (s : ByteArray) (J Jx : List ByteArray → World → Prop) (hJs : ∀ pre W v, J pre W → J pre (W.setCell ⟨B, 0, none⟩ v)) (hJd : ∀ pre W, J pre W → J pre W.drew)
    (hY : ∀ pre x W, J pre W → (pre ++ [x]).map L <+: linesOf (L s) → YieldAt Fence.wide (n - 1) Try.prog l #[.string x] W fun e W' =>
      (e = .returned (.bool true) ∧ J (pre ++ [x]) W' ∧ W'.cell? ⟨B, 0, none⟩ = W.cell? ⟨B, 0, none⟩ ∧ W'.frozen? ⟨B, 0, none⟩ = W.frozen? ⟨B, 0, none⟩) ∨ (e = .returned (.bool false) ∧ Jx (pre ++ [x]) W'))
    (W : World) (hs : s.size ≤ 1000000000000) (hB : W.cell? ⟨B, 0, none⟩ = some (.string s)) (hf : W.frozen? ⟨B, 0, none⟩ = false) (h0 : J [] W) :
    CallsIn Fence.wide n Try.prog 88 #[.func (.yield l) #[] #[], .pointer (some ⟨B, 0, none⟩)] W fun e W' => (∃ v, e = .returned v) ∧
      ((∃ pre, pre.map L = linesOf (L s) ∧ J pre W') ∨ (∃ pre, pre.map L <+: linesOf (L s) ∧ Jx pre W')) := by
  obtain ⟨R, hR⟩ : ∃ R, R = linesOf (L s) := ⟨_, rfl⟩
  rw [← hR]
  rw [← hR] at hY
  refine callsIn_of_wp Try.func88 rfl trivial ?_ rfl
  simp only [Try.ntmps88, List.size_toArray, List.length_cons, List.length_nil, Nat.reduceAdd, Nat.reduceSub, Array.replicate_succ, Array.replicate_zero, List.push_toArray, List.append_toArray, List.nil_append, List.cons_append]
  gi_wp2
  gi_loopw [] (fun wr => ∃ (pre : List ByteArray) (t : ByteArray), t.size ≤ s.size ∧ wr.cell? ⟨B, 0, none⟩ = some (.string t) ∧ wr.frozen? ⟨B, 0, none⟩ = false ∧ Hid (R = pre.map L ++ linesOf (L t)) ∧ J pre wr) (fun wr => restLen B wr)
  case atStart => exact ⟨[], s, Nat.le_refl _, hB, hf, Lib.hid (by rw [hR]; rfl), h0⟩
  case round =>
    obtain ⟨pre, t, ht, hc, hfr, hl, hJ⟩ := hrel
    have hm := restLen_of hc
    clear hB hf h0 hR
    by_cases hz : t.size = 0
    · have t1 : decide ((0 : Int) < (t.size : Int)) = false := decide_eq_false (by omega)
      have hL : linesOf (L t) = [] := by
        have : L t = [] := List.length_eq_zero_iff.1 (by rw [L_len]; exact hz)
        rw [this]; rfl
      gi_wp2
      go_end0
      exact ⟨⟨_, rfl⟩, .inl ⟨pre, by rw [hl.out, hL]; simp, hJ⟩⟩
    · have t1 : decide ((0 : Int) < (t.size : Int)) = true := decide_eq_true (by omega)
      by_cases h10 : 10 ∈ L t
      · obtain ⟨i, hi, hle, hlin, hsm⟩ := cut_first t h10
        have hI := Lib.hid (fun W => index89 t W)
        rw [hi] at hI
        have hl2 : R = (pre ++ [t.extract 0 (i + 1)]).map L ++ linesOf (L (t.extract (i + 1) t.size)) := by rw [hl.out, hlin]; simp
        have HL := Lib.hid hl2
        have HM := Lib.hid hsm
        have wi : IntKind.i64.wrap ((i : Int) + 1) = (i : Int) + 1 := IntWalk.i64_in _ (by omega)
        have w0 : (0 : Int) ≤ (i : Int) + 1 := by omega
        have w1 : (i : Int) + 1 ≤ (t.size : Int) := by omega
        clear hi hlin hsm hl hl2 h10
        have hJ2 := hJd pre _ (hJs pre wr (.string (t.extract (i + 1) t.size)) hJ)
        obtain ⟨fn, tmps, assign, body, hy, hR2⟩ := hY pre (t.extract 0 (i + 1)) _ hJ2 (by rw [HL.out]; exact List.prefix_append _ _)
        gi_wp2_with (refine ⟨trivial, no_depth, ?_⟩; refine (callsIn_wide.2 (hI.out _)).mono ?_; rintro e w2 ⟨rfl, rfl⟩)
        gi_region
        gi_wp2
        refine ⟨no_depth, hR2.mono ?_⟩
        rintro e W3 (⟨rfl, hJ3, hc3, hf3⟩ | ⟨rfl, hJx3⟩)
        · have hc4 : W3.cell? ⟨B, 0, none⟩ = some (.string (t.extract (i + 1) t.size)) := hc3.trans (World.cell?_setCell_same _ _ _ hc)
          have hf4 : W3.frozen? ⟨B, 0, none⟩ = false := hf3.trans (by simpa using hfr)
          clear hy hJ2 hJ hc3 hf3
          gi_wp2
          go_roundw
          case rel => exact ⟨pre ++ [t.extract 0 (i + 1)], _, by have := HM.out; omega, hc4, hf4, HL, hJ3⟩
          case measure => rw [restLen_of hc4, hm]; exact HM.out
        · gi_wp2
          refine bodyPost_ret (results_none rfl _ _ _) rfl ⟨⟨_, rfl⟩, .inr ⟨_, ?_, hJx3⟩⟩
          rw [HL.out]
          exact List.prefix_append _ _
      · have hI := Lib.hid (fun W => index89 t W)
        rw [index_none _ h10] at hI
        have hlin : linesOf (L t) = [L t] := lines_last _ h10 (fun e => hz (by rw [← L_len, e]; rfl))
        have hl2 : R = (pre ++ [t]).map L ++ linesOf [] := by rw [hl.out, hlin]; simp [linesOf, lnAux]
        have HL := Lib.hid hl2
        clear hlin hl hl2 h10
        have hJ2 := hJs pre wr (.string ⟨#[]⟩) hJ
        obtain ⟨fn, tmps, assign, body, hy, hR2⟩ := hY pre t _ hJ2 (by rw [HL.out]; exact List.prefix_append _ _)
        gi_wp2_with (refine ⟨trivial, no_depth, ?_⟩; refine (callsIn_wide.2 (hI.out _)).mono ?_; rintro e w2 ⟨rfl, rfl⟩)
        refine ⟨no_depth, hR2.mono ?_⟩
        rintro e W3 (⟨rfl, hJ3, hc3, hf3⟩ | ⟨rfl, hJx3⟩)
        · have hc4 : W3.cell? ⟨B, 0, none⟩ = some (.string ⟨#[]⟩) := hc3.trans (World.cell?_setCell_same _ _ _ hc)
          have hf4 : W3.frozen? ⟨B, 0, none⟩ = false := hf3.trans (by simpa using hfr)
          clear hy hJ2 hJ hc3 hf3
          gi_wp2
          go_roundw
          case rel => exact ⟨pre ++ [t], _, Nat.zero_le _, hc4, hf4, HL, hJ3⟩
          case measure => rw [restLen_of hc4, hm]; show (0 : Nat) < _; omega
        · gi_wp2
          refine bodyPost_ret (results_none rfl _ _ _) rfl ⟨⟨_, rfl⟩, .inr ⟨_, ?_, hJx3⟩⟩
          rw [HL.out]
          exact List.prefix_append _ _
end Go.Proofs.Ytinabbdecmjcpaa.Script

namespace Go.Proofs.Ytinabbdecmjcpaa.Script
open Go.RowKit Go.Proofs.Ytinabbdecmjcpaa Go.Proofs.Ytinabbdecmjcpaa.Plain Go.Proofs.Ytinabbdecmjcpaa.Words
set_option linter.unusedVariables false

/-- Does a line have its end? -/
def ends (x : ByteArray) : Bool := decide (0 < x.size) && ((x.extract (x.size - 1) x.size).toList == [10])
theorem suffix100 (x : ByteArray) (w : World) (hs : x.size ≤ 1000000000000) : Calls Try.prog 100 #[.string x, .string ⟨#[10]⟩] w fun e w' => e = .returned (.bool (ends x)) ∧ w = w' := by
  by_cases h : 0 < x.size
  · have e1 : decide ((1 : Int) ≤ (x.size : Int)) = true := decide_eq_true (by omega)
    have e2 : IntKind.i64.wrap ((x.size : Int) - 1) = ((x.size - 1 : Nat) : Int) := by rw [IntWalk.i64_in _ (by omega)]; omega
    have e3 : x.size - 1 ≤ x.size := by omega
    have he : ends x = ((x.extract (x.size - 1) x.size).toList == [10]) := by unfold ends; rw [decide_eq_true h]; rfl
    rw [he]
    clear he
    go_enter Try.func100, Try.ntmps100
    go_wp2
    go_ret
    exact ⟨rfl, rfl⟩
  · have e1 : decide ((1 : Int) ≤ (x.size : Int)) = false := decide_eq_false (by omega)
    have he : ends x = false := by unfold ends; rw [decide_eq_false h]; rfl
    rw [he]
    clear he
    go_enter Try.func100, Try.ntmps100
    go_wp2
    go_ret
    exact ⟨rfl, rfl⟩
theorem cut90 (x : ByteArray) (w : World) (hs : x.size ≤ 1000000000000) : Calls Try.prog 90 #[.string x, .string ⟨#[10]⟩] w fun e w' => e = .returned (.tuple #[.string (if ends x = true then x.extract 0 (x.size - 1) else x), .bool (ends x)]) ∧ w = w' := by
  have h := Lib.hid (fun W => suffix100 x W hs)
  have hp : ends x = true → 0 < x.size := fun e => by
    unfold ends at e
    rw [Bool.and_eq_true] at e
    exact of_decide_eq_true e.1
  cases he : ends x with
  | false =>
    rw [he] at h
    clear hp
    go_enter Try.func90, Try.ntmps90
    go_wp2_with (go_at_call 100; refine (h.out _).mono ?_; rintro e w' ⟨rfl, rfl⟩)
    go_ret2
    exact ⟨rfl, rfl⟩
  | true =>
    rw [he] at h
    have h0 := hp he
    have e2 : IntKind.i64.wrap ((x.size : Int) - 1) = ((x.size - 1 : Nat) : Int) := by rw [IntWalk.i64_in _ (by omega)]; omega
    have e3 : x.size - 1 ≤ x.size := by omega
    clear hp he
    go_enter Try.func90, Try.ntmps90
    go_wp2_with (go_at_call 100; refine (h.out _).mono ?_; rintro e w' ⟨rfl, rfl⟩)
    go_ret2
    exact ⟨rfl, rfl⟩
theorem cut69 (x : ByteArray) (w : World) (hs : x.size ≤ 1000000000000) : Calls Try.prog 69 #[.string x, .string ⟨#[10]⟩] w fun e w' => e = .returned (.tuple #[.string (if ends x = true then x.extract 0 (x.size - 1) else x), .bool (ends x)]) ∧ w = w' := by
  have h := Lib.hid (fun W => cut90 x W hs)
  generalize (if ends x = true then x.extract 0 (x.size - 1) else x) = y at *
  generalize ends x = b at *
  go_enter Try.func69, Try.ntmps69
  go_wp2_with (go_at_call 90; refine (h.out _).mono ?_; rintro e w' ⟨rfl, rfl⟩)
  go_ret2
  exact ⟨rfl, rfl⟩
theorem lines68 (s : ByteArray) (w : World) : Calls Try.prog 68 #[.string s] w fun e w' => e = .returned (.func (.func 88) #[] #[.pointer (some ⟨w.heap.size, 0, none⟩)]) ∧ w.alloc (.cells #[.string s] 9) = w' := by
  go_enter Try.func68, Try.ntmps68
  go_wp2
  go_ret
  exact ⟨rfl, rfl⟩
/-- A line with its end. -/
theorem ends_iff (l : List UInt8) : ends (S (l ++ [10])) = true ∧ (S (l ++ [10])).extract 0 ((S (l ++ [10])).size - 1) = S l := by
  have hz : (S (l ++ [10])).size = l.length + 1 := by show (l ++ [10]).toArray.size = _; simp
  refine ⟨?_, ?_⟩
  · unfold ends
    rw [hz, decide_eq_true (by omega), extract_S, ByteArray.toList_eq]
    show (true && ((((l ++ [10]).drop (l.length + 1 - 1)).take (l.length + 1 - (l.length + 1 - 1))) == [10])) = true
    rw [Nat.add_sub_cancel, List.drop_left' rfl]
    simp
  · rw [hz, extract_S]
    show S (((l ++ [10]).drop 0).take (l.length + 1 - 1 - 0)) = S l
    rw [List.drop_zero, Nat.sub_zero, Nat.add_sub_cancel, List.take_left' rfl]
theorem ends_form (x : ByteArray) (h : ends x = true) : L x = L (x.extract 0 (x.size - 1)) ++ [10] := by
  unfold ends at h
  rw [Bool.and_eq_true, decide_eq_true_eq, beq_iff_eq] at h
  obtain ⟨h0, h1⟩ := h
  rw [extract_S, ByteArray.toList_eq] at h1
  have h2 : ((L x).drop (x.size - 1)).take (x.size - (x.size - 1)) = [10] := h1
  rw [List.take_of_length_le (by rw [List.length_drop, L_len]; omega)] at h2
  rw [extract_S]
  show L x = ((L x).drop 0).take (x.size - 1 - 0) ++ [10]
  rw [← h2, List.drop_zero, Nat.sub_zero, List.take_append_drop]
end Go.Proofs.Ytinabbdecmjcpaa.Script

namespace Go.Proofs.Ytinabbdecmjcpaa.Script
open Go.Proofs.Ytinabbdecmjcpaa Go.Proofs.Ytinabbdecmjcpaa.Plain Go.Proofs.Ytinabbdecmjcpaa.Named Go.Proofs.Ytinabbdecmjcpaa.Number Go.Proofs.Ytinabbdecmjcpaa.Ev
open Go.Lib (decDigits)
set_option linter.unusedVariables false

structure Ten where
  name : ByteArray
  key : List UInt8
/-- What was read so far. -/
structure Rd where
  tens : List Ten
  cap : Int
  sess : Int
  evs : List Ev
def rd0 : Rd := ⟨[], 0, 0, []⟩
def wTen : List UInt8 := [116, 101, 110, 97, 110, 116]
def wCap : List UInt8 := [99, 97, 112, 97, 99, 105, 116, 121]
def wSes : List UInt8 := [115, 101, 115, 115, 105, 111, 110, 115]
/-- A line without its end. -/
def takeOf (st : Rd) (l : List UInt8) : Option Rd :=
  if l = [] ∨ l.head? = some 35 then some st
  else if first (words l) = wTen then
    (if checkOf (words l) wTen [116, 98] ≠ 0 ∨ st.evs ≠ [] then none
     else match fieldsOf (words l) [116, 98] with
       | [f, g] => some { st with tens := st.tens ++ [⟨S f.text, g.data⟩] }
       | _ => none)
  else if first (words l) = wCap then
    (if checkOf (words l) wCap [115] ≠ 0 ∨ st.evs ≠ [] then none
     else match fieldsOf (words l) [115] with
       | [f] => some { st with cap := f.n }
       | _ => none)
  else if first (words l) = wSes then
    (if checkOf (words l) wSes [115] ≠ 0 ∨ st.evs ≠ [] then none
     else match fieldsOf (words l) [115] with
       | [f] => some { st with sess := f.n }
       | _ => none)
  else if (parseOf l).2 ≠ 0 then none
  else some { st with evs := st.evs ++ [(parseOf l).1] }
/-- A line with its end. -/
def lineOf (st : Rd) (x : ByteArray) : Option Rd := if ends x = true then takeOf st (L (x.extract 0 (x.size - 1))) else none
/-- Lines, one behind the other. -/
def foldO : List ByteArray → Rd → Option Rd
  | [], st => some st
  | x :: xs, st => match lineOf st x with
    | none => none
    | some st' => foldO xs st'
theorem foldO_snoc : ∀ (xs : List ByteArray) (x : ByteArray) (st : Rd), foldO (xs ++ [x]) st = match foldO xs st with | none => none | some st' => lineOf st' x
  | [], x, st => by
    simp only [List.nil_append, foldO]
    cases lineOf st x <;> rfl
  | y :: xs, x, st => by
    simp only [List.cons_append, foldO]
    cases lineOf st y with
    | none => rfl
    | some st' => exact foldO_snoc xs x st'

/-- What is wrong with tenants; those of some names are there. -/
def chkT : List (List UInt8) → List Ten → Nat
  | _, [] => 0
  | seen, t :: l => if namedB 16 smallB lowB (L t.name) = false then 7 else if L t.name ∈ seen then 9 else if t.key.length < 1 ∨ 32 < t.key.length then 2 else chkT (seen ++ [L t.name]) l
def checkT (l : List Ten) : Nat := if 8 < l.length then 3 else chkT [] l
/-- What is wrong with a setup. -/
def checkS (l : List Ten) (cap sess : Int) : Nat := if checkT l ≠ 0 then checkT l else if cap < 0 ∨ sess < 0 then 6 else 0
end Go.Proofs.Ytinabbdecmjcpaa.Script
