/- Plain facts on bytes as digits and back; no program in sight. Events as lines, plainly: words and patterns, the line of an event, the event of a line, and that the two lead back to each other. No program in sight. What event's write tells, plainly: the fields as they are taken, the line that is made of them, and that it is told just where the event may be. No program in sight. -/
import Derived.Laws.BitsAllLaws
import Derived.Test.YtinabbdecmjcpaaGreatDoorG00
import Derived.Test.YtinabbdecmjcpaaGreatDoorG01
namespace Go.Proofs.YtinabbdecmjcpaaGreatDoor.Plain

/-- The digit of a number below 16. -/
def sg (n : Nat) : UInt8 := if n < 10 then UInt8.ofNat (48 + n) else UInt8.ofNat (87 + n)
/-- Two digits a byte. -/
def two (c : UInt8) : List UInt8 := [sg (c.toNat / 16), sg (c.toNat % 16)]
def hexs (l : List UInt8) : List UInt8 := l.flatMap two
/-- Bytes as digits. -/
def hexOf (l : List UInt8) : List UInt8 := if l = [] then [45] else hexs l
/-- The number of a digit. -/
def nib (n : Nat) : Option Nat := if 48 ≤ n ∧ n ≤ 57 then some (n - 48) else if 97 ≤ n ∧ n ≤ 102 then some (n - 87) else none
/-- The bytes of digits, two by two. -/
def unhex : List UInt8 → Option (List UInt8)
  | [] => some []
  | [_] => none
  | a :: b :: l => match nib a.toNat, nib b.toNat, unhex l with
    | some x, some y, some r => some (UInt8.ofNat (16 * x + y) :: r)
    | _, _, _ => none
/-- The bytes of a text of digits. -/
def bytesOf (l : List UInt8) : Option (List UInt8) := if l = [45] then some [] else if l = [] then none else unhex l

theorem hexs_len : ∀ l : List UInt8, (hexs l).length = 2 * l.length
  | [] => rfl
  | c :: l => by
    have e : hexs (c :: l) = two c ++ hexs l := rfl
    rw [e, List.length_append, hexs_len l]
    simp [two]
    omega
theorem hexs_snoc (l : List UInt8) (c : UInt8) : hexs (l ++ [c]) = hexs l ++ two c := by simp [hexs]

theorem sg_toNat (n : Nat) (h : n < 16) : (sg n).toNat = if n < 10 then 48 + n else 87 + n := by
  unfold sg
  split
  · simp [UInt8.toNat_ofNat']; omega
  · simp [UInt8.toNat_ofNat']; omega
theorem nib_sg (n : Nat) (h : n < 16) : nib (sg n).toNat = some n := by
  rw [sg_toNat n h]
  unfold nib
  split
  · rw [if_pos (by omega)]; congr 1; omega
  · rw [if_neg (by omega), if_pos (by omega)]; congr 1; omega
theorem nib_lt {n x : Nat} (h : nib n = some x) : x < 16 := by
  unfold nib at h
  split at h
  · cases h; omega
  · split at h
    · cases h; omega
    · cases h
theorem sg_nib (c : UInt8) (x : Nat) (h : nib c.toNat = some x) : sg x = c := by
  have hx := nib_lt h
  apply UInt8.toNat_inj.1
  rw [sg_toNat x hx]
  unfold nib at h
  split at h
  · cases h
    split <;> omega
  · split at h
    · cases h
      split <;> omega
    · cases h
theorem sg_ne (n : Nat) (h : n < 16) : (sg n).toNat ≠ 45 := by rw [sg_toNat n h]; split <;> omega

theorem unhex_hexs : ∀ l : List UInt8, unhex (hexs l) = some l
  | [] => rfl
  | c :: l => by
    have ih := unhex_hexs l
    have hc := c.toNat_lt
    have e : hexs (c :: l) = sg (c.toNat / 16) :: sg (c.toNat % 16) :: hexs l := rfl
    rw [e, unhex, nib_sg _ (by omega), nib_sg _ (by omega), ih]
    have : UInt8.ofNat (16 * (c.toNat / 16) + c.toNat % 16) = c := by
      rw [Nat.div_add_mod]; simp
    simp [this]

theorem bytesOf_hexOf (l : List UInt8) : bytesOf (hexOf l) = some l := by
  unfold hexOf
  split
  · rename_i h; subst h; rfl
  · rename_i h
    unfold bytesOf
    cases l with
    | nil => exact absurd rfl h
    | cons c l =>
      have e : hexs (c :: l) = sg (c.toNat / 16) :: sg (c.toNat % 16) :: hexs l := rfl
      rw [if_neg (by rw [e]; simp), if_neg (by rw [e]; simp), unhex_hexs]

theorem hexs_unhex : ∀ (l r : List UInt8), unhex l = some r → hexs r = l
  | [], r, h => by cases h; rfl
  | [_], r, h => by cases h
  | a :: b :: l, r, h => by
    rw [unhex] at h
    split at h
    · rename_i x y r' hx hy hr
      cases h
      have ih := hexs_unhex l r' hr
      have x1 := nib_lt hx
      have y1 := nib_lt hy
      have e : hexs (UInt8.ofNat (16 * x + y) :: r') = sg ((UInt8.ofNat (16 * x + y)).toNat / 16) :: sg ((UInt8.ofNat (16 * x + y)).toNat % 16) :: hexs r' := rfl
      have e2 : (UInt8.ofNat (16 * x + y)).toNat = 16 * x + y := by simp [UInt8.toNat_ofNat']; omega
      rw [e, e2, show (16 * x + y) / 16 = x by omega, show (16 * x + y) % 16 = y by omega, sg_nib a x hx, sg_nib b y hy, ih]
    · cases h

theorem hexOf_bytesOf (l r : List UInt8) (h : bytesOf l = some r) : hexOf r = l := by
  unfold bytesOf at h
  split at h
  · cases h; rename_i e; rw [e]; rfl
  · split at h
    · cases h
    · rename_i h1 h2
      have e := hexs_unhex l r h
      unfold hexOf
      split
      · rename_i e3
        subst e3
        exact absurd e.symm h2
      · exact e

/-- Are a text's bytes digits of bytes? -/
def hexesB (l : List UInt8) : Bool := decide (l = [45]) || (decide (0 < l.length) && decide (l.length % 2 = 0) && l.all (fun c => (nib c.toNat).isSome))

theorem unhex_isSome : ∀ l : List UInt8, (unhex l).isSome = (decide (l.length % 2 = 0) && l.all (fun c => (nib c.toNat).isSome))
  | [] => rfl
  | [_] => by simp [unhex]
  | a :: b :: l => by
    have ih := unhex_isSome l
    rw [unhex]
    have e : decide ((a :: b :: l).length % 2 = 0) = decide (l.length % 2 = 0) := by
      congr 1
      simp only [List.length_cons, eq_iff_iff]
      omega
    rw [e]
    simp only [List.all_cons]
    cases ha : nib a.toNat with
    | none => simp
    | some x =>
      cases hb : nib b.toNat with
      | none => simp
      | some y =>
        cases hr : unhex l with
        | none => rw [hr] at ih; simp at ih; simpa using ih
        | some r => rw [hr] at ih; simp at ih; simpa using ih

theorem hexesB_eq (l : List UInt8) : hexesB l = (bytesOf l).isSome := by
  unfold hexesB bytesOf
  by_cases h1 : l = [45]
  · simp [h1]
  · rw [if_neg h1, decide_eq_false h1, Bool.false_or]
    by_cases h2 : l = []
    · simp [h2]
    · rw [if_neg h2, unhex_isSome, decide_eq_true (by rw [← ne_eq, ← List.length_pos_iff] at h2; exact h2 : 0 < l.length), Bool.true_and]

/-- 'x << 4 | y' on bytes. -/
theorem or_shift (a x : Nat) (ha : a < 16) (hx : x < 16) : bits .or .u8 ((a : Int) * 16) (x : Int) = ((16 * a + x : Nat) : Int) := by
  have h : ∀ a x : Fin 16, bits .or .u8 (((a : Nat) : Int) * 16) ((x : Nat) : Int) = ((16 * (a : Nat) + (x : Nat) : Nat) : Int) := by decide +kernel
  exact h ⟨a, ha⟩ ⟨x, hx⟩
theorem and15 (c : UInt8) : bits .and .u8 (c.toNat : Int) 15 = ((c.toNat % 16 : Nat) : Int) := by
  have h : ∀ c : Fin 256, bits .and .u8 ((c : Nat) : Int) 15 = (((c : Nat) % 16 : Nat) : Int) := by decide +kernel
  exact h ⟨c.toNat, c.toNat_lt⟩
end Go.Proofs.YtinabbdecmjcpaaGreatDoor.Plain

namespace Go.Proofs.YtinabbdecmjcpaaGreatDoor.Ev
open Go.Proofs.YtinabbdecmjcpaaGreatDoor Go.Proofs.YtinabbdecmjcpaaGreatDoor.Plain Go.Proofs.YtinabbdecmjcpaaGreatDoor.Named Go.Proofs.YtinabbdecmjcpaaGreatDoor.Number
open Go.Lib (decDigits)
set_option linter.unusedVariables false

/-! ### Words that are joined -/
def join : List (List UInt8) → List UInt8
  | [] => []
  | [w] => w
  | w :: x :: ws => w ++ 32 :: join (x :: ws)
theorem join_cons (w x : List UInt8) (ws : List (List UInt8)) : join (w :: x :: ws) = w ++ 32 :: join (x :: ws) := rfl
def Good (w : List UInt8) : Prop := w ≠ [] ∧ ∀ c ∈ w, 32 < c.toNat

theorem scan_good (w l : List UInt8) (acc : List (List UInt8)) (h : Good w) : scan (w ++ 32 :: l) [] acc = scan l [] (acc ++ [w]) := by
  rw [scan_high w (32 :: l) [] acc h.2, List.nil_append, scan, if_pos (show UInt8.toNat 32 = 32 by decide), if_neg h.1]
theorem scan_last (w : List UInt8) (acc : List (List UInt8)) (h : Good w) : scan w [] acc = some (acc ++ [w]) := by
  have := scan_high w [] [] acc h.2
  rw [List.append_nil] at this
  rw [this, List.nil_append, scan, if_neg h.1]
theorem scan_join : ∀ (ws : List (List UInt8)) (w : List UInt8) (acc : List (List UInt8)), (∀ x ∈ w :: ws, Good x) → scan (join (w :: ws)) [] acc = some (acc ++ w :: ws)
  | [], w, acc, h => scan_last w acc (h w (by simp))
  | x :: ws, w, acc, h => by
    rw [join_cons, scan_good w _ acc (h w (by simp)), scan_join ws x (acc ++ [w]) (fun y hy => h y (by simp only [List.mem_cons] at hy ⊢; exact .inr hy))]
    simp
theorem join_ne (w : List UInt8) (ws : List (List UInt8)) (h : w ≠ []) : join (w :: ws) ≠ [] := by
  cases ws with
  | nil => exact h
  | cons x ws => rw [join_cons]; intro e; exact h (List.append_eq_nil_iff.1 e).1
/-- The words of what is joined. -/
theorem words_join (w : List UInt8) (ws : List (List UInt8)) (h : ∀ x ∈ w :: ws, Good x) : words (join (w :: ws)) = some (w :: ws) := by
  unfold words
  rw [if_neg (join_ne w ws (h w (by simp)).1), scan_join ws w [] h]
  rfl
theorem scan_back : ∀ (l w : List UInt8) (acc r : List (List UInt8)), scan l w acc = some r → (∀ c ∈ w, 32 < c.toNat) → ∃ x ws, r = acc ++ x :: ws ∧ join (x :: ws) = w ++ l ∧ ∀ y ∈ x :: ws, Good y
  | [], w, acc, r, h, hw => by
    unfold scan at h
    split at h
    · cases h
    · rename_i hn
      cases h
      exact ⟨w, [], rfl, by simp [join], fun y hy => by simp at hy; subst hy; exact ⟨hn, hw⟩⟩
  | c :: l, w, acc, r, h, hw => by
    unfold scan at h
    split at h
    · rename_i h32
      split at h
      · cases h
      · rename_i hn
        obtain ⟨x, ws, e1, e2, e3⟩ := scan_back l [] (acc ++ [w]) r h (by simp)
        refine ⟨w, x :: ws, by simpa using e1, ?_, fun y hy => ?_⟩
        · have hc : c = 32 := UInt8.toNat_inj.1 h32
          rw [join_cons, e2, hc]; rfl
        · rcases List.mem_cons.1 hy with rfl | hy
          · exact ⟨hn, hw⟩
          · exact e3 y hy
    · split at h
      · cases h
      · obtain ⟨x, ws, e1, e2, e3⟩ := scan_back l (w ++ [c]) acc r h (fun d hd => by
          rcases List.mem_append.1 hd with hd | hd
          · exact hw d hd
          · simp at hd; subst hd; omega)
        exact ⟨x, ws, e1, by simpa using e2, e3⟩
theorem words_back (l : List UInt8) (r : List (List UInt8)) (h : words l = some r) : join r = l ∧ ∀ y ∈ r, Good y := by
  unfold words at h
  split at h
  · rename_i e
    cases h
    exact ⟨by rw [e]; rfl, by simp⟩
  · obtain ⟨x, ws, e1, e2, e3⟩ := scan_back l [] [] r h (by simp)
    rw [List.nil_append] at e1 e2
    subst e1
    exact ⟨e2, e3⟩

theorem join_len : ∀ (ws : List (List UInt8)) (x : List UInt8), x ∈ ws → x.length ≤ (join ws).length
  | [], x, h => by simp at h
  | [w], x, h => by simp at h; subst h; exact Nat.le_refl _
  | w :: y :: ws, x, h => by
    rw [join_cons, List.length_append, List.length_cons]
    rcases List.mem_cons.1 h with rfl | h
    · omega
    · have := join_len (y :: ws) x h
      omega

/-- Spaces. -/
def sp (l : List UInt8) : Nat := l.countP (fun c => c == 32)
theorem sp_append (a b : List UInt8) : sp (a ++ b) = sp a + sp b := List.countP_append
theorem sp_cons32 (b : List UInt8) : sp (32 :: b) = sp b + 1 := by unfold sp; rw [List.countP_cons]; simp
theorem sp_good (w : List UInt8) (h : Good w) : sp w = 0 := by
  unfold sp
  rw [List.countP_eq_zero]
  intro c hc e
  have := h.2 c hc
  have e' : c = 32 := by simpa using e
  rw [e'] at this
  exact absurd this (by decide)
def sps (ws : List (List UInt8)) : Nat := (ws.map sp).sum
theorem sp_join : ∀ (ws : List (List UInt8)) (w : List UInt8), sp (join (w :: ws)) = ws.length + sps (w :: ws)
  | [], w => by simp [join, sps]
  | x :: ws, w => by
    rw [join_cons, sp_append, sp_cons32, sp_join ws x]
    simp [sps]; omega
theorem sps_zero (ws : List (List UInt8)) (h : sps ws = 0) : ∀ w ∈ ws, sp w = 0 := by
  induction ws with
  | nil => simp
  | cons w ws ih =>
    simp only [sps, List.map_cons, List.sum_cons] at h
    intro x hx
    rcases List.mem_cons.1 hx with rfl | hx
    · omega
    · exact ih (by unfold sps; omega) x hx
theorem sps_good (ws : List (List UInt8)) (h : ∀ w ∈ ws, Good w) : sps ws = 0 := by
  induction ws with
  | nil => rfl
  | cons w ws ih =>
    have h1 := sp_good w (h w (by simp))
    have h2 := ih (fun x hx => h x (by simp [hx]))
    unfold sps at h2 ⊢
    simp only [List.map_cons, List.sum_cons]
    omega
theorem cut32 : ∀ (a b r r' : List UInt8), sp a = 0 → sp b = 0 → a ++ 32 :: r = b ++ 32 :: r' → a = b ∧ r = r'
  | [], [], r, r', _, _, h => by simpa using h
  | [], c :: b, r, r', _, hb, h => by
    simp only [List.nil_append, List.cons_append, List.cons.injEq] at h
    rw [← h.1, sp_cons32] at hb
    omega
  | c :: a, [], r, r', ha, _, h => by
    simp only [List.nil_append, List.cons_append, List.cons.injEq] at h
    rw [h.1, sp_cons32] at ha
    omega
  | c :: a, d :: b, r, r', ha, hb, h => by
    simp only [List.cons_append, List.cons.injEq] at h
    have ha' : sp a = 0 := by unfold sp at ha ⊢; rw [List.countP_cons] at ha; omega
    have hb' : sp b = 0 := by unfold sp at hb ⊢; rw [List.countP_cons] at hb; omega
    obtain ⟨e1, e2⟩ := cut32 a b r r' ha' hb' h.2
    exact ⟨by rw [h.1, e1], e2⟩
theorem join_inj : ∀ (ws vs : List (List UInt8)), ws.length = vs.length → (∀ w ∈ ws, sp w = 0) → (∀ w ∈ vs, sp w = 0) → join ws = join vs → ws = vs
  | [], [], _, _, _, _ => rfl
  | [], _ :: _, h, _, _, _ => by simp at h
  | _ :: _, [], h, _, _, _ => by simp at h
  | [w], [v], _, _, _, h => by simpa [join] using h
  | [w], _ :: _ :: _, h, _, _, _ => by simp at h
  | _ :: _ :: _, [v], h, _, _, _ => by simp at h
  | w :: x :: ws, v :: y :: vs, hl, h1, h2, h => by
    rw [join_cons, join_cons] at h
    obtain ⟨e1, e2⟩ := cut32 w v _ _ (h1 w (by simp)) (h2 v (by simp)) h
    rw [e1, join_inj (x :: ws) (y :: vs) (by simpa using hl) (fun z hz => h1 z (by simp only [List.mem_cons] at hz ⊢; exact .inr hz)) (fun z hz => h2 z (by simp only [List.mem_cons] at hz ⊢; exact .inr hz)) e2]
/-- Of two lists as long, of which one is the words of what the other makes. -/
theorem words_unique (ws vs : List (List UInt8)) (hl : ws.length = vs.length) (h : words (join vs) = some ws) : ws = vs := by
  obtain ⟨e, hg⟩ := words_back _ _ h
  have h0 := sps_good ws hg
  cases vs with
  | nil => simpa using hl
  | cons v vs =>
    cases ws with
    | nil => simp at hl
    | cons w ws =>
      have h1 := sp_join ws w
      have h2 := sp_join vs v
      rw [e] at h1
      have h3 : sps (v :: vs) = 0 := by simp at hl; omega
      exact join_inj _ _ hl (sps_zero _ h0) (sps_zero _ h3) e

/-! ### Signs and fields -/
structure Fld where
  text : List UInt8
  n : Nat
  data : List UInt8
def fld0 : Fld := ⟨[], 0, []⟩
def known (c : UInt8) : Bool := c == 116 || c == 104 || c == 110 || c == 98 || c == 115
/-- What a word says by a sign, and what is wrong with it. -/
def readF (c : UInt8) (w : List UInt8) : Fld × Nat :=
  if c = 116 then (if namedB 16 smallB lowB w = true then (⟨w, 0, []⟩, 0) else (fld0, 2))
  else if c = 104 then (if namedB 24 markB smallB w = true then (⟨w, 0, []⟩, 0) else (fld0, 2))
  else if c = 98 then (match bytesOf w with | some d => (⟨[], 0, d⟩, 0) | none => (fld0, 2))
  else if c = 110 then (⟨[], (numOf w).1, []⟩, (numOf w).2)
  else if c = 115 then (if (numOf w).2 = 0 ∧ 2147483647 < (numOf w).1 then (fld0, 6) else (⟨[], (numOf w).1, []⟩, (numOf w).2))
  else (fld0, 2)
def signErr (c : UInt8) (w : List UInt8) : Nat := (readF c w).2
/-- The first thing that is wrong with words, by signs. -/
def signs : List UInt8 → List (List UInt8) → Nat
  | c :: p, x :: ws => if signErr c x ≠ 0 then signErr c x else signs p ws
  | _, _ => 0
def fields : List UInt8 → List (List UInt8) → List Fld
  | c :: p, x :: ws => (readF c x).1 :: fields p ws
  | _, _ => []
/-- What is wrong with a line. -/
def checkOf (r : Option (List (List UInt8))) (w p : List UInt8) : Nat :=
  match r with
  | none => 2
  | some ws => if ws.length ≠ p.length + 1 ∨ ws.head? ≠ some w then 2 else signs p ws.tail
/-- The fields of a line. -/
def fieldsOf (r : Option (List (List UInt8))) (p : List UInt8) : List Fld :=
  match r with
  | none => []
  | some ws => fields p ws.tail

/-! ### Events -/
structure Ev where
  kind : Int
  session : Int
  stream : Int
  tenant : ByteArray
  n : Nat
  m : Int
  bits : Nat
  data : List UInt8
def ev0 (k : Int) : Ev := ⟨k, 0, 0, ⟨#[]⟩, 0, 0, 0, []⟩
inductive Slot | session | stream | m | tenant | n | bits | data
def sign : Slot → UInt8
  | .session | .stream | .m => 115
  | .n | .bits => 110
  | .tenant => 116
  | .data => 98
def slotsN : Nat → List Slot
  | 1 => [.m] | 2 => [.session, .data] | 3 => [.session, .data] | 4 => [.session] | 5 => [.session, .stream, .data] | 6 => [.session, .stream]
  | 7 => [.tenant, .bits] | 10 => [.tenant, .n] | 11 => [.tenant, .bits] | 12 => [.tenant] | 13 => [.tenant, .n] | 15 => [.n, .m] | _ => []
def wordN : Nat → List UInt8
  | 1 => [98, 111, 111, 116] | 2 => [99, 111, 110, 110, 101, 99, 116] | 3 => [98, 121, 116, 101, 115] | 4 => [104, 97, 110, 103, 117, 112]
  | 5 => [116, 97, 114, 103, 101, 116] | 6 => [101, 110, 100] | 7 => [112, 105, 99, 107] | 8 => [99, 111, 109, 109, 105, 116] | 9 => [116, 105, 99, 107]
  | 10 => [99, 97, 112] | 11 => [112, 114, 105, 99, 101] | 12 => [99, 108, 111, 115, 101] | 13 => [101, 120, 112, 111, 114, 116] | 14 => [99, 111, 109, 112, 97, 99, 116]
  | 15 => [97, 114, 109] | _ => []
def patN (k : Nat) : List UInt8 := (slotsN k).map sign
def inR (k : Int) : Bool := decide (1 ≤ k) && decide (k ≤ 15)
def wordOf (k : Int) : List UInt8 := if inR k then wordN k.toNat else []
def patOf (k : Int) : List UInt8 := if inR k then patN k.toNat else []
def getT (e : Ev) : Slot → List UInt8
  | .session => decDigits e.session.toNat
  | .stream => decDigits e.stream.toNat
  | .m => decDigits e.m.toNat
  | .tenant => L e.tenant
  | .n => decDigits e.n
  | .bits => decDigits e.bits
  | .data => hexOf e.data
def setF (e : Ev) (f : Fld) : Slot → Ev
  | .session => { e with session := f.n }
  | .stream => { e with stream := f.n }
  | .m => { e with m := f.n }
  | .tenant => { e with tenant := S f.text }
  | .n => { e with n := f.n }
  | .bits => { e with bits := f.n }
  | .data => { e with data := f.data }
def copyF (e x : Ev) : Slot → Ev
  | .session => { x with session := e.session }
  | .stream => { x with stream := e.stream }
  | .m => { x with m := e.m }
  | .tenant => { x with tenant := e.tenant }
  | .n => { x with n := e.n }
  | .bits => { x with bits := e.bits }
  | .data => { x with data := e.data }
/-- The event with just what its line says. -/
def bare (e : Ev) : Ev := (slotsN e.kind.toNat).foldl (copyF e) (ev0 e.kind)
/-- The line. -/
def textOf (e : Ev) : List UInt8 := join (wordN e.kind.toNat :: (slotsN e.kind.toNat).map (getT e))
def sameB (a b : Ev) : Bool := (a.kind == b.kind) && (a.session == b.session) && (a.stream == b.stream) && (a.tenant.toList == b.tenant.toList) && (a.n == b.n) && (a.m == b.m) && (a.bits == b.bits) && decide (a.data = b.data)
theorem sameB_iff (a b : Ev) : sameB a b = true ↔ a = b := by
  constructor
  · intro h
    simp only [sameB, Bool.and_eq_true, beq_iff_eq, decide_eq_true_eq] at h
    obtain ⟨⟨⟨⟨⟨⟨⟨h1, h2⟩, h3⟩, h4⟩, h5⟩, h6⟩, h7⟩, h8⟩ := h
    cases a; cases b
    simp only at h1 h2 h3 h4 h5 h6 h7 h8
    subst h1 h2 h3 h5 h6 h7 h8
    congr 1
    rw [ByteArray.toList_eq, ByteArray.toList_eq] at h4
    have := congrArg (fun l => (⟨l.toArray⟩ : ByteArray)) h4
    exact ByteArray.ext (by simpa using this)
  · rintro rfl; simp [sameB]
/-- The line of an event that may be. -/
def printOf (e : Ev) : Option (List UInt8) :=
  if inR e.kind = false ∨ e.session < 0 ∨ e.stream < 0 ∨ e.m < 0 then none
  else if sameB e (bare e) = false ∨ checkOf (words (textOf e)) (wordN e.kind.toNat) (patN e.kind.toNat) ≠ 0 then none
  else some (textOf e)
/-- The kind of a word; 0: it is none. -/
def kindOf (w : List UInt8) : Nat := ((List.range 15).find? fun i => wordN (i + 1) == w).elim 0 (· + 1)
def putF : Ev → List Slot → List Fld → Ev
  | e, s :: ss, f :: fs => putF (setF e f s) ss fs
  | e, _, _ => e
/-- The first word. -/
def first : Option (List (List UInt8)) → List UInt8
  | some (w :: _) => w
  | _ => []
/-- The event of a line, and what is wrong with it. -/
def parseOf (l : List UInt8) : Ev × Nat :=
  if kindOf (first (words l)) = 0 then (ev0 0, 5)
  else if checkOf (words l) (wordN (kindOf (first (words l)))) (patN (kindOf (first (words l)))) ≠ 0 then (ev0 0, checkOf (words l) (wordN (kindOf (first (words l)))) (patN (kindOf (first (words l)))))
  else (putF (ev0 (kindOf (first (words l)))) (slotsN (kindOf (first (words l)))) (fieldsOf (words l) (patN (kindOf (first (words l))))), 0)
theorem kindOf_word : ∀ k : Fin 16, 1 ≤ k.val → kindOf (wordN k.val) = k.val := by decide +kernel
theorem kindOf_le (w : List UInt8) : kindOf w ≤ 15 := by
  unfold kindOf
  cases h : (List.range 15).find? fun i => wordN (i + 1) == w with
  | none => simp
  | some i =>
    have := List.mem_of_find?_eq_some h
    simp at this ⊢; omega
theorem word_kindOf (w : List UInt8) (h : kindOf w ≠ 0) : wordN (kindOf w) = w := by
  unfold kindOf at h ⊢
  cases hf : (List.range 15).find? fun i => wordN (i + 1) == w with
  | none => rw [hf] at h; simp at h
  | some i =>
    have := List.find?_some hf
    simpa using this

/-! ### A line that is printed is read as its event -/
theorem err_n (w : List UInt8) : (readF 110 w) = (⟨[], (numOf w).1, []⟩, (numOf w).2) := by simp [readF]
theorem err_s (w : List UInt8) (h : signErr 115 w = 0) : (readF 115 w) = (⟨[], (numOf w).1, []⟩, 0) ∧ (numOf w).2 = 0 ∧ (numOf w).1 ≤ 2147483647 := by
  unfold signErr readF at h
  unfold readF
  simp only [show ¬ (115 : UInt8) = 116 by decide, show ¬ (115 : UInt8) = 104 by decide, show ¬ (115 : UInt8) = 98 by decide, show ¬ (115 : UInt8) = 110 by decide, if_false, if_true] at h ⊢
  split at h
  · cases h
  · rename_i hc
    have h2 : (numOf w).2 = 0 := h
    rw [if_neg hc, h2]
    exact ⟨rfl, rfl, by omega⟩
theorem err_t (w : List UInt8) (h : signErr 116 w = 0) : readF 116 w = (⟨w, 0, []⟩, 0) ∧ namedB 16 smallB lowB w = true := by
  unfold signErr readF at h
  unfold readF
  simp only [if_true] at h ⊢
  split at h
  · rename_i hc; exact ⟨by rw [if_pos hc], hc⟩
  · cases h
theorem err_b (w : List UInt8) (h : signErr 98 w = 0) : ∃ d, readF 98 w = (⟨[], 0, d⟩, 0) ∧ bytesOf w = some d := by
  unfold signErr readF at h
  unfold readF
  simp only [show ¬ (98 : UInt8) = 116 by decide, show ¬ (98 : UInt8) = 104 by decide, if_false, if_true] at h ⊢
  cases hb : bytesOf w with
  | none => rw [hb] at h; cases h
  | some d => exact ⟨d, rfl, rfl⟩
theorem signs_cons (c : UInt8) (p : List UInt8) (x : List UInt8) (ws : List (List UInt8)) (h : signs (c :: p) (x :: ws) = 0) : signErr c x = 0 ∧ signs p ws = 0 := by
  unfold signs at h
  split at h
  · rename_i hc; exact absurd h hc
  · rename_i hc; exact ⟨by simpa using hc, h⟩

/-- The numbers of an event that came in are numbers of their types. -/
structure Fits (e : Ev) : Prop where
  session : e.session ≤ 9223372036854775807
  stream : e.stream ≤ 9223372036854775807
  m : e.m ≤ 9223372036854775807
  n : e.n < 18446744073709551616
  bits : e.bits < 18446744073709551616

/-- What a slot's text is read as, by its sign. -/
theorem read_slot (e x : Ev) (s : Slot) (hf : Fits e) (h0 : 0 ≤ e.session) (h1 : 0 ≤ e.stream) (h2 : 0 ≤ e.m) (h : signErr (sign s) (getT e s) = 0) : setF x (readF (sign s) (getT e s)).1 s = copyF e x s := by
  have hd : ∀ k : Nat, k < 18446744073709551616 → (numOf (decDigits k)).1 = k := fun k hk => by rw [num_dec k hk]
  cases s
  · show { x with session := ((readF 115 (decDigits e.session.toNat)).1.n : Int) } = { x with session := e.session }
    rw [(err_s (decDigits e.session.toNat) h).1]
    show { x with session := ((numOf (decDigits e.session.toNat)).1 : Int) } = _
    rw [hd _ (by have := hf.session; omega)]
    congr 1; omega
  · show { x with stream := ((readF 115 (decDigits e.stream.toNat)).1.n : Int) } = { x with stream := e.stream }
    rw [(err_s (decDigits e.stream.toNat) h).1]
    show { x with stream := ((numOf (decDigits e.stream.toNat)).1 : Int) } = _
    rw [hd _ (by have := hf.stream; omega)]
    congr 1; omega
  · show { x with m := ((readF 115 (decDigits e.m.toNat)).1.n : Int) } = { x with m := e.m }
    rw [(err_s (decDigits e.m.toNat) h).1]
    show { x with m := ((numOf (decDigits e.m.toNat)).1 : Int) } = _
    rw [hd _ (by have := hf.m; omega)]
    congr 1; omega
  · show { x with tenant := S (readF 116 (L e.tenant)).1.text } = { x with tenant := e.tenant }
    rw [(err_t (L e.tenant) h).1]
  · show { x with n := (readF 110 (decDigits e.n)).1.n } = { x with n := e.n }
    rw [err_n]
    show { x with n := (numOf (decDigits e.n)).1 } = _
    rw [hd _ hf.n]
  · show { x with bits := (readF 110 (decDigits e.bits)).1.n } = { x with bits := e.bits }
    rw [err_n]
    show { x with bits := (numOf (decDigits e.bits)).1 } = _
    rw [hd _ hf.bits]
  · obtain ⟨d, e1, e2⟩ := err_b _ h
    show { x with data := (readF 98 (hexOf e.data)).1.data } = { x with data := e.data }
    rw [show readF 98 (hexOf e.data) = (⟨[], 0, d⟩, 0) from e1]
    have : bytesOf (hexOf e.data) = some d := e2
    rw [bytesOf_hexOf] at this
    rw [Option.some.inj this]
theorem read_slots (e : Ev) (hf : Fits e) (h0 : 0 ≤ e.session) (h1 : 0 ≤ e.stream) (h2 : 0 ≤ e.m) : ∀ (ss : List Slot) (x : Ev), signs (ss.map sign) (ss.map (getT e)) = 0 → putF x ss (fields (ss.map sign) (ss.map (getT e))) = ss.foldl (copyF e) x
  | [], x, _ => rfl
  | s :: ss, x, h => by
    obtain ⟨a, b⟩ := signs_cons _ _ _ _ h
    show putF (setF x (readF (sign s) (getT e s)).1 s) ss (fields (ss.map sign) (ss.map (getT e))) = ss.foldl (copyF e) (copyF e x s)
    rw [read_slot e x s hf h0 h1 h2 a]
    exact read_slots e hf h0 h1 h2 ss _ b
theorem kind_copy (e : Ev) : ∀ (ss : List Slot) (x : Ev), (ss.foldl (copyF e) x).kind = x.kind
  | [], x => rfl
  | s :: ss, x => by
    show (ss.foldl (copyF e) (copyF e x s)).kind = x.kind
    rw [kind_copy e ss]
    cases s <;> rfl
theorem print_parts (e : Ev) (s : List UInt8) (h : printOf e = some s) : inR e.kind = true ∧ 0 ≤ e.session ∧ 0 ≤ e.stream ∧ 0 ≤ e.m ∧ e = bare e ∧ checkOf (words (textOf e)) (wordN e.kind.toNat) (patN e.kind.toNat) = 0 ∧ s = textOf e := by
  unfold printOf at h
  split at h
  · cases h
  · rename_i h1
    split at h
    · cases h
    · rename_i h2
      have hr : inR e.kind = true := by cases hx : inR e.kind; exact absurd (.inl hx) h1; rfl
      have hs : sameB e (bare e) = true := by cases hx : sameB e (bare e); exact absurd (.inl hx) h2; rfl
      exact ⟨hr, by omega, by omega, by omega, (sameB_iff _ _).1 hs, by
        cases hc : checkOf (words (textOf e)) (wordN e.kind.toNat) (patN e.kind.toNat) with
        | zero => rfl
        | succ n => exact absurd (.inr (by rw [hc]; simp)) h2, (Option.some.inj h).symm⟩
theorem inR_nat {k : Int} (h : inR k = true) : ∃ j : Nat, k = j ∧ 1 ≤ j ∧ j ≤ 15 := by
  simp [inR] at h
  exact ⟨k.toNat, by omega, by omega, by omega⟩
theorem pat_len (k : Nat) : (patN k).length = (slotsN k).length := by simp [patN]
theorem parse_print (e : Ev) (s : List UInt8) (hf : Fits e) (h : printOf e = some s) : parseOf s = (e, 0) := by
  obtain ⟨hr, h0, h1, h2, hb, hc, rfl⟩ := print_parts e s h
  obtain ⟨j, hj, j1, j2⟩ := inR_nat hr
  have hjn : e.kind.toNat = j := by omega
  have ht : textOf e = join (wordN j :: (slotsN j).map (getT e)) := by unfold textOf; rw [hjn]
  rw [hjn] at hc
  have hw : words (textOf e) = some (wordN j :: (slotsN j).map (getT e)) := by
    cases hx : words (textOf e) with
    | none => rw [hx] at hc; cases hc
    | some ws =>
      rw [hx] at hc
      unfold checkOf at hc
      simp only at hc
      split at hc
      · cases hc
      · rename_i hn
        have hl : ws.length = (wordN j :: (slotsN j).map (getT e)).length := by
          have : ws.length = (patN j).length + 1 := by
            by_cases x : ws.length = (patN j).length + 1
            · exact x
            · exact absurd (.inl x) hn
          rw [this, pat_len]; simp
        rw [ht] at hx
        rw [words_unique ws _ hl hx]
  have hk : kindOf (wordN j) = j := kindOf_word ⟨j, by omega⟩ j1
  unfold parseOf
  rw [hw] at hc ⊢
  rw [show first (some (wordN j :: (slotsN j).map (getT e))) = wordN j from rfl, hk, if_neg (by omega), if_neg (by rw [hc]; simp)]
  congr 1
  unfold checkOf at hc
  simp only at hc
  split at hc
  · cases hc
  · show putF (ev0 j) (slotsN j) (fields (patN j) ((slotsN j).map (getT e))) = e
    rw [show patN j = (slotsN j).map sign from rfl, read_slots e hf h0 h1 h2 (slotsN j) (ev0 j) hc]
    have hb' := hb.symm
    unfold bare at hb'
    rw [hjn, hj] at hb'
    exact hb'

/-! ### A line that is read is its event's -/
theorem getT_other (x : Ev) (f : Fld) (s t : Slot) (h : s ≠ t) : getT (setF x f s) t = getT x t := by
  cases s <;> cases t <;> first | rfl | exact absurd rfl h
theorem getT_put : ∀ (ss : List Slot) (fs : List Fld) (x : Ev) (t : Slot), t ∉ ss → getT (putF x ss fs) t = getT x t
  | [], fs, x, t, _ => by cases fs <;> rfl
  | s :: ss, [], x, t, _ => rfl
  | s :: ss, f :: fs, x, t, h => by
    show getT (putF (setF x f s) ss fs) t = _
    rw [getT_put ss fs _ t (fun e => h (by simp [e])), getT_other x f s t (fun e => h (by simp [e]))]
theorem getT_self (x : Ev) (s : Slot) (w : List UInt8) (h : signErr (sign s) w = 0) : getT (setF x (readF (sign s) w).1 s) s = w := by
  have hnum : ∀ v : List UInt8, (numOf v).2 = 0 → decDigits (numOf v).1 = v := fun v hv => (dec_num v (numOf v).1 (by rw [← hv])).1
  cases s
  · obtain ⟨a, b, _⟩ := err_s w h
    show decDigits ((readF 115 w).1.n : Int).toNat = w
    rw [a]
    exact hnum w b
  · obtain ⟨a, b, _⟩ := err_s w h
    show decDigits ((readF 115 w).1.n : Int).toNat = w
    rw [a]
    exact hnum w b
  · obtain ⟨a, b, _⟩ := err_s w h
    show decDigits ((readF 115 w).1.n : Int).toNat = w
    rw [a]
    exact hnum w b
  · show L (S (readF 116 w).1.text) = w
    rw [(err_t w h).1]
  · show decDigits (readF 110 w).1.n = w
    rw [err_n]
    exact hnum w (by have : (readF 110 w).2 = 0 := h; rw [err_n] at this; exact this)
  · show decDigits (readF 110 w).1.n = w
    rw [err_n]
    exact hnum w (by have : (readF 110 w).2 = 0 := h; rw [err_n] at this; exact this)
  · obtain ⟨d, a, b⟩ := err_b w h
    show hexOf (readF 98 w).1.data = w
    rw [a]
    exact hexOf_bytesOf w d b
theorem put_texts : ∀ (ss : List Slot) (xs : List (List UInt8)) (x : Ev), ss.Nodup → xs.length = ss.length → signs (ss.map sign) xs = 0 → ss.map (getT (putF x ss (fields (ss.map sign) xs))) = xs
  | [], [], x, _, _, _ => rfl
  | [], _ :: _, x, _, h, _ => by simp at h
  | _ :: _, [], x, _, h, _ => by simp at h
  | s :: ss, w :: xs, x, hn, hl, h => by
    obtain ⟨a, b⟩ := signs_cons _ _ _ _ h
    rw [List.nodup_cons] at hn
    show getT (putF (setF x (readF (sign s) w).1 s) ss (fields (ss.map sign) xs)) s :: ss.map (getT (putF (setF x (readF (sign s) w).1 s) ss (fields (ss.map sign) xs))) = w :: xs
    rw [getT_put ss _ _ s hn.1, getT_self x s w a, put_texts ss xs _ hn.2 (by simpa using hl) b]
theorem copyF_put : ∀ (ss : List Slot) (fs : List Fld) (y x : Ev) (s : Slot), s ∉ ss → copyF (putF y ss fs) x s = copyF y x s
  | [], fs, y, x, s, _ => by cases fs <;> rfl
  | t :: ss, [], y, x, s, _ => rfl
  | t :: ss, f :: fs, y, x, s, h => by
    show copyF (putF (setF y f t) ss fs) x s = _
    rw [copyF_put ss fs _ x s (fun e => h (by simp [e]))]
    have hne : t ≠ s := fun e => h (by simp [e])
    cases s <;> cases t <;> first | rfl | exact absurd rfl hne
theorem copyF_self (x : Ev) (f : Fld) (s : Slot) : copyF (setF x f s) x s = setF x f s := by cases s <;> rfl
theorem bare_put : ∀ (ss : List Slot) (fs : List Fld) (x : Ev), ss.Nodup → fs.length = ss.length → ss.foldl (copyF (putF x ss fs)) x = putF x ss fs
  | [], [], x, _, _ => rfl
  | [], _ :: _, x, _, h => by simp at h
  | _ :: _, [], x, _, h => by simp at h
  | s :: ss, f :: fs, x, hn, hl => by
    rw [List.nodup_cons] at hn
    show ss.foldl (copyF (putF (setF x f s) ss fs)) (copyF (putF (setF x f s) ss fs) x s) = putF (setF x f s) ss fs
    rw [copyF_put ss fs _ x s hn.1, copyF_self]
    exact bare_put ss fs _ hn.2 (by simpa using hl)
theorem kind_put : ∀ (ss : List Slot) (fs : List Fld) (x : Ev), (putF x ss fs).kind = x.kind
  | [], fs, x => by cases fs <;> rfl
  | s :: ss, [], x => rfl
  | s :: ss, f :: fs, x => by
    show (putF (setF x f s) ss fs).kind = _
    rw [kind_put ss fs]
    cases s <;> rfl
theorem nonneg_put : ∀ (ss : List Slot) (fs : List Fld) (x : Ev), 0 ≤ x.session → 0 ≤ x.stream → 0 ≤ x.m → 0 ≤ (putF x ss fs).session ∧ 0 ≤ (putF x ss fs).stream ∧ 0 ≤ (putF x ss fs).m
  | [], fs, x, a, b, c => by cases fs <;> exact ⟨a, b, c⟩
  | s :: ss, [], x, a, b, c => ⟨a, b, c⟩
  | s :: ss, f :: fs, x, a, b, c => by
    show 0 ≤ (putF (setF x f s) ss fs).session ∧ 0 ≤ (putF (setF x f s) ss fs).stream ∧ 0 ≤ (putF (setF x f s) ss fs).m
    have hz : (0 : Int) ≤ (f.n : Int) := by omega
    refine nonneg_put ss fs (setF x f s) ?_ ?_ ?_ <;> cases s <;> first | exact a | exact b | exact c | exact hz
theorem fields_len : ∀ (p : List UInt8) (xs : List (List UInt8)), xs.length = p.length → (fields p xs).length = p.length
  | [], [], _ => rfl
  | [], _ :: _, h => by simp at h
  | _ :: _, [], h => by simp at h
  | c :: p, x :: xs, h => by simp [fields, fields_len p xs (by simpa using h)]
theorem slots_nodup (k : Nat) : (slotsN k).Nodup := by
  unfold slotsN
  split <;> simp
/-- What a line is whose check finds nothing. -/
theorem check_zero (r : Option (List (List UInt8))) (w p : List UInt8) (h : checkOf r w p = 0) : ∃ xs, r = some (w :: xs) ∧ xs.length = p.length ∧ signs p xs = 0 := by
  unfold checkOf at h
  cases r with
  | none => cases h
  | some ws =>
    simp only at h
    split at h
    · cases h
    · rename_i hn
      have h1 : ws.length = p.length + 1 := by
        by_cases x : ws.length = p.length + 1
        · exact x
        · exact absurd (.inl x) hn
      have h2 : ws.head? = some w := by
        by_cases x : ws.head? = some w
        · exact x
        · exact absurd (.inr x) hn
      cases ws with
      | nil => cases h2
      | cons v xs =>
        cases Option.some.inj h2
        exact ⟨xs, rfl, by simpa using h1, h⟩
theorem print_parse (l : List UInt8) (e : Ev) (h : parseOf l = (e, 0)) : printOf e = some l := by
  unfold parseOf at h
  split at h
  · cases h
  · rename_i hk
    split at h
    · rename_i hc; exact absurd (congrArg Prod.snd h) hc
    · rename_i hc
      have he := (congrArg Prod.fst h).symm
      simp only at he
      clear h
      have hc0 : checkOf (words l) (wordN (kindOf (first (words l)))) (patN (kindOf (first (words l)))) = 0 := by simpa using hc
      obtain ⟨xs, hw, hl, hsg⟩ := check_zero _ _ _ hc0
      generalize hkk : kindOf (first (words l)) = k at *
      have hk15 : k ≤ 15 := by rw [← hkk]; exact kindOf_le _
      have hf : fieldsOf (words l) (patN k) = fields (patN k) xs := by rw [hw]; rfl
      rw [hf] at he
      have hn := slots_nodup k
      have hkind : e.kind = k := by rw [he, kind_put]; rfl
      have hjn : e.kind.toNat = k := by omega
      have hnn := nonneg_put (slotsN k) (fields (patN k) xs) (ev0 k) (Int.le_refl 0) (Int.le_refl 0) (Int.le_refl 0)
      rw [← he] at hnn
      have hlen : xs.length = (slotsN k).length := by rw [hl, pat_len]
      have htx : (slotsN k).map (getT e) = xs := by rw [he]; exact put_texts (slotsN k) xs (ev0 k) hn hlen hsg
      have hbare : bare e = e := by
        unfold bare
        rw [hjn, hkind]
        have := bare_put (slotsN k) (fields (patN k) xs) (ev0 k) hn (by rw [fields_len _ _ hl, pat_len])
        rw [← he] at this
        exact this
      have htext : textOf e = l := by
        unfold textOf
        rw [hjn, htx]
        exact (words_back l _ hw).1
      unfold printOf
      rw [if_neg, if_neg, htext]
      · rintro (h | h)
        · rw [hbare, (sameB_iff e e).2 rfl] at h; cases h
        · rw [htext, hjn] at h; exact h hc0
      · rintro (h | h | h | h)
        · have : inR e.kind = true := by rw [hkind]; simp [inR]; omega
          rw [this] at h; cases h
        · omega
        · omega
        · omega
end Go.Proofs.YtinabbdecmjcpaaGreatDoor.Ev

namespace Go.Proofs.YtinabbdecmjcpaaGreatDoor.Ev
open Go.Proofs.YtinabbdecmjcpaaGreatDoor Go.Proofs.YtinabbdecmjcpaaGreatDoor.Plain Go.Proofs.YtinabbdecmjcpaaGreatDoor.Named Go.Proofs.YtinabbdecmjcpaaGreatDoor.Number
open Go.Lib (decDigits)
set_option linter.unusedVariables false

/-- A number of 64 bits without a sign. -/
def u64 (z : Int) : Nat := (z % 18446744073709551616).toNat
theorem u64_lt (z : Int) : u64 z < 18446744073709551616 := by unfold u64; omega
theorem u64_nonneg (z : Int) (h : 0 ≤ z) (h' : z ≤ 9223372036854775807) : u64 z = z.toNat := by unfold u64; omega
theorem u64_neg (z : Int) (h : z < 0) (h' : -9223372036854775808 ≤ z) : 9223372036854775808 ≤ u64 z := by unfold u64; omega
theorem u64_nat (n : Nat) (h : n < 18446744073709551616) : u64 (n : Int) = n := by unfold u64; omega
/-- A slot as a field. -/
def takeF (e : Ev) : Slot → Fld
  | .session => ⟨[], u64 e.session, []⟩
  | .stream => ⟨[], u64 e.stream, []⟩
  | .m => ⟨[], u64 e.m, []⟩
  | .tenant => ⟨L e.tenant, 0, []⟩
  | .n => ⟨[], e.n, []⟩
  | .bits => ⟨[], e.bits, []⟩
  | .data => ⟨[], 0, e.data⟩
/-- The event without a slot. -/
def zeroF (e : Ev) : Slot → Ev
  | .session => { e with session := 0 }
  | .stream => { e with stream := 0 }
  | .m => { e with m := 0 }
  | .tenant => { e with tenant := ⟨#[]⟩ }
  | .n => { e with n := 0 }
  | .bits => { e with bits := 0 }
  | .data => { e with data := [] }
/-- A field's word, by its sign. -/
def writeF (c : UInt8) (f : Fld) : List UInt8 :=
  if c = 116 ∨ c = 104 then f.text else if c = 98 then hexOf f.data else decDigits f.n
def textT (e : Ev) (s : Slot) : List UInt8 := writeF (sign s) (takeF e s)
/-- The words of fields. -/
def writes : List UInt8 → List Fld → List (List UInt8)
  | c :: p, f :: fs => writeF c f :: writes p fs
  | _, _ => []
theorem writes_map (e : Ev) : ∀ ss : List Slot, writes (ss.map sign) (ss.map (takeF e)) = ss.map (textT e)
  | [] => rfl
  | s :: ss => by
    show writeF (sign s) (takeF e s) :: writes (ss.map sign) (ss.map (takeF e)) = _
    rw [writes_map e ss]
    rfl
/-- The line of fields; none: it is not read again. -/
def lineOf (wd p : List UInt8) (fs : List Fld) : List UInt8 := join (wd :: writes p fs)
/-- What write tells. -/
def writeOf (e : Ev) : Option (List UInt8) :=
  if inR e.kind = false then none
  else if sameB ((slotsN e.kind.toNat).foldl zeroF e) (ev0 e.kind) = false then none
  else if checkOf (words (lineOf (wordN e.kind.toNat) (patN e.kind.toNat) ((slotsN e.kind.toNat).map (takeF e)))) (wordN e.kind.toNat) (patN e.kind.toNat) ≠ 0 then none
  else some (lineOf (wordN e.kind.toNat) (patN e.kind.toNat) ((slotsN e.kind.toNat).map (takeF e)))

instance slotEq : DecidableEq Slot := fun a b => by
  cases a <;> cases b <;> first | exact isTrue rfl | exact isFalse (fun h => by cases h)
theorem textT_get (e : Ev) (hf : Fits e) (h0 : 0 ≤ e.session) (h1 : 0 ≤ e.stream) (h2 : 0 ≤ e.m) (s : Slot) : textT e s = getT e s := by
  have a := u64_nonneg _ h0 hf.session
  have b := u64_nonneg _ h1 hf.stream
  have c := u64_nonneg _ h2 hf.m
  cases s
  · show decDigits (u64 e.session) = _; rw [a]; rfl
  · show decDigits (u64 e.stream) = _; rw [b]; rfl
  · show decDigits (u64 e.m) = _; rw [c]; rfl
  · rfl
  · rfl
  · rfl
  · rfl
theorem zero_kind : ∀ (ss : List Slot) (e : Ev), (ss.foldl zeroF e).kind = e.kind
  | [], e => rfl
  | s :: ss, e => by
    show (ss.foldl zeroF (zeroF e s)).kind = _
    rw [zero_kind ss]
    cases s <;> rfl
theorem zero_cover : ∀ (ss : List Slot) (e : Ev), (ss.foldl zeroF e).session = (if Slot.session ∈ ss then 0 else e.session) ∧ (ss.foldl zeroF e).stream = (if Slot.stream ∈ ss then 0 else e.stream) ∧ (ss.foldl zeroF e).m = (if Slot.m ∈ ss then 0 else e.m) ∧ (ss.foldl zeroF e).tenant = (if Slot.tenant ∈ ss then ⟨#[]⟩ else e.tenant) ∧ (ss.foldl zeroF e).n = (if Slot.n ∈ ss then 0 else e.n) ∧ (ss.foldl zeroF e).bits = (if Slot.bits ∈ ss then 0 else e.bits) ∧ (ss.foldl zeroF e).data = (if Slot.data ∈ ss then [] else e.data)
  | [], e => by simp
  | s :: ss, e => by
    have h := zero_cover ss (zeroF e s)
    simp only [List.foldl_cons]
    rw [h.1, h.2.1, h.2.2.1, h.2.2.2.1, h.2.2.2.2.1, h.2.2.2.2.2.1, h.2.2.2.2.2.2]
    cases s <;> simp [zeroF]
theorem copy_cover (e : Ev) : ∀ (ss : List Slot) (x : Ev), (ss.foldl (copyF e) x).session = (if Slot.session ∈ ss then e.session else x.session) ∧ (ss.foldl (copyF e) x).stream = (if Slot.stream ∈ ss then e.stream else x.stream) ∧ (ss.foldl (copyF e) x).m = (if Slot.m ∈ ss then e.m else x.m) ∧ (ss.foldl (copyF e) x).tenant = (if Slot.tenant ∈ ss then e.tenant else x.tenant) ∧ (ss.foldl (copyF e) x).n = (if Slot.n ∈ ss then e.n else x.n) ∧ (ss.foldl (copyF e) x).bits = (if Slot.bits ∈ ss then e.bits else x.bits) ∧ (ss.foldl (copyF e) x).data = (if Slot.data ∈ ss then e.data else x.data)
  | [], x => by simp
  | s :: ss, x => by
    have h := copy_cover e ss (copyF e x s)
    simp only [List.foldl_cons]
    rw [h.1, h.2.1, h.2.2.1, h.2.2.2.1, h.2.2.2.2.1, h.2.2.2.2.2.1, h.2.2.2.2.2.2]
    cases s <;> simp [copyF]
theorem ev_ext (a b : Ev) (h0 : a.kind = b.kind) (h1 : a.session = b.session) (h2 : a.stream = b.stream) (h3 : a.m = b.m) (h4 : a.tenant = b.tenant) (h5 : a.n = b.n) (h6 : a.bits = b.bits) (h7 : a.data = b.data) : a = b := by
  cases a; cases b
  simp only at h0 h1 h2 h3 h4 h5 h6 h7
  subst h0 h1 h2 h3 h4 h5 h6 h7
  rfl
/-- What stands besides the slots is nothing, just where the event is its bare one. -/
theorem zero_bare (e : Ev) (ss : List Slot) : ss.foldl zeroF e = ev0 e.kind ↔ e = ss.foldl (copyF e) (ev0 e.kind) := by
  obtain ⟨z1, z2, z3, z4, z5, z6, z7⟩ := zero_cover ss e
  obtain ⟨c1, c2, c3, c4, c5, c6, c7⟩ := copy_cover e ss (ev0 e.kind)
  have hk := kind_copy e ss (ev0 e.kind)
  have hz := zero_kind ss e
  constructor
  · intro h
    rw [h] at z1 z2 z3 z4 z5 z6 z7
    refine ev_ext _ _ hk.symm ?_ ?_ ?_ ?_ ?_ ?_ ?_
    · rw [c1]; split <;> rename_i x <;> simp only [x, if_true, if_false] at z1 <;> first | rfl | exact z1.symm
    · rw [c2]; split <;> rename_i x <;> simp only [x, if_true, if_false] at z2 <;> first | rfl | exact z2.symm
    · rw [c3]; split <;> rename_i x <;> simp only [x, if_true, if_false] at z3 <;> first | rfl | exact z3.symm
    · rw [c4]; split <;> rename_i x <;> simp only [x, if_true, if_false] at z4 <;> first | rfl | exact z4.symm
    · rw [c5]; split <;> rename_i x <;> simp only [x, if_true, if_false] at z5 <;> first | rfl | exact z5.symm
    · rw [c6]; split <;> rename_i x <;> simp only [x, if_true, if_false] at z6 <;> first | rfl | exact z6.symm
    · rw [c7]; split <;> rename_i x <;> simp only [x, if_true, if_false] at z7 <;> first | rfl | exact z7.symm
  · intro h
    rw [← h] at c1 c2 c3 c4 c5 c6 c7
    refine ev_ext _ _ hz ?_ ?_ ?_ ?_ ?_ ?_ ?_
    · rw [z1]; split <;> rename_i x <;> simp only [x, if_true, if_false] at c1 <;> first | rfl | exact c1
    · rw [z2]; split <;> rename_i x <;> simp only [x, if_true, if_false] at c2 <;> first | rfl | exact c2
    · rw [z3]; split <;> rename_i x <;> simp only [x, if_true, if_false] at c3 <;> first | rfl | exact c3
    · rw [z4]; split <;> rename_i x <;> simp only [x, if_true, if_false] at c4 <;> first | rfl | exact c4
    · rw [z5]; split <;> rename_i x <;> simp only [x, if_true, if_false] at c5 <;> first | rfl | exact c5
    · rw [z6]; split <;> rename_i x <;> simp only [x, if_true, if_false] at c6 <;> first | rfl | exact c6
    · rw [z7]; split <;> rename_i x <;> simp only [x, if_true, if_false] at c7 <;> first | rfl | exact c7
theorem bool_iff {a b : Bool} (h : a = true ↔ b = true) : a = b := by
  cases a <;> cases b <;> simp at h ⊢
theorem zero_same (e : Ev) : sameB ((slotsN e.kind.toNat).foldl zeroF e) (ev0 e.kind) = sameB e (bare e) := by
  refine bool_iff ?_
  rw [sameB_iff, sameB_iff]
  exact zero_bare e _
theorem signs_mem : ∀ (ss : List Slot) (f : Slot → List UInt8) (s : Slot), s ∈ ss → signs (ss.map sign) (ss.map f) = 0 → signErr (sign s) (f s) = 0
  | [], f, s, h, _ => by simp at h
  | t :: ss, f, s, h, hs => by
    obtain ⟨a, b⟩ := signs_cons _ _ _ _ hs
    rcases List.mem_cons.1 h with rfl | h
    · exact a
    · exact signs_mem ss f s h b
/-- A line of fields that is read: all its words are right. -/
theorem line_read (e : Ev) (k : Nat) (h : checkOf (words (lineOf (wordN k) (patN k) ((slotsN k).map (takeF e)))) (wordN k) (patN k) = 0) : signs ((slotsN k).map sign) ((slotsN k).map (textT e)) = 0 := by
  have hl : lineOf (wordN k) (patN k) ((slotsN k).map (takeF e)) = join (wordN k :: (slotsN k).map (textT e)) := by
    unfold lineOf
    rw [show patN k = (slotsN k).map sign from rfl, writes_map]
  rw [hl] at h
  obtain ⟨xs, hw, hlen, hs⟩ := check_zero _ _ _ h
  have := words_unique (wordN k :: xs) (wordN k :: (slotsN k).map (textT e)) (by rw [pat_len] at hlen; simp [hlen]) hw
  rw [List.cons.injEq] at this
  rw [← this.2]
  exact hs
theorem big_err (z : Int) (h : z < 0) (h' : -9223372036854775808 ≤ z) : signErr 115 (decDigits (u64 z)) ≠ 0 := by
  intro hs
  have := (err_s _ hs).2.2
  rw [num_dec _ (u64_lt z)] at this
  have := u64_neg z h h'
  simp only at *
  omega
/-- The numbers of an event that came in, on both sides. -/
structure Fits2 (e : Ev) : Prop extends Fits e where
  session' : -9223372036854775808 ≤ e.session
  stream' : -9223372036854775808 ≤ e.stream
  m' : -9223372036854775808 ≤ e.m
theorem write_print (e : Ev) (hf : Fits2 e) : writeOf e = printOf e := by
  unfold writeOf
  by_cases hk : inR e.kind = false
  · rw [if_pos hk]; unfold printOf; rw [if_pos (.inl hk)]
  rw [if_neg hk, zero_same]
  by_cases hn : e.session < 0 ∨ e.stream < 0 ∨ e.m < 0
  · have hp : printOf e = none := by unfold printOf; rw [if_pos (.inr hn)]
    rw [hp]
    by_cases hs : sameB e (bare e) = false
    · rw [if_pos hs]
    rw [if_neg hs, if_pos]
    intro h0
    have hs0 := line_read e _ h0
    have hb : e = bare e := (sameB_iff _ _).1 (by simpa using hs)
    obtain ⟨c1, c2, c3, _⟩ := copy_cover e (slotsN e.kind.toNat) (ev0 e.kind)
    have hb' : e = (slotsN e.kind.toNat).foldl (copyF e) (ev0 e.kind) := hb
    rw [← hb'] at c1 c2 c3
    rcases hn with hn | hn | hn
    · by_cases hm : Slot.session ∈ slotsN e.kind.toNat
      · exact big_err _ hn hf.session' (signs_mem _ _ _ hm hs0)
      · rw [if_neg hm] at c1
        rw [c1] at hn
        exact absurd hn (Int.lt_irrefl 0)
    · by_cases hm : Slot.stream ∈ slotsN e.kind.toNat
      · exact big_err _ hn hf.stream' (signs_mem _ _ _ hm hs0)
      · rw [if_neg hm] at c2
        rw [c2] at hn
        exact absurd hn (Int.lt_irrefl 0)
    · by_cases hm : Slot.m ∈ slotsN e.kind.toNat
      · exact big_err _ hn hf.m' (signs_mem _ _ _ hm hs0)
      · rw [if_neg hm] at c3
        rw [c3] at hn
        exact absurd hn (Int.lt_irrefl 0)
  · have h0 : 0 ≤ e.session := by omega
    have h1 : 0 ≤ e.stream := by omega
    have h2 : 0 ≤ e.m := by omega
    have ht : lineOf (wordN e.kind.toNat) (patN e.kind.toNat) ((slotsN e.kind.toNat).map (takeF e)) = textOf e := by
      unfold lineOf textOf
      rw [show patN e.kind.toNat = (slotsN e.kind.toNat).map sign from rfl, writes_map]
      congr 2
      exact List.map_congr_left fun s _ => textT_get e hf.toFits h0 h1 h2 s
    rw [ht]
    unfold printOf
    have hN : ¬ (inR e.kind = false ∨ e.session < 0 ∨ e.stream < 0 ∨ e.m < 0) := by
      rintro (h | h)
      · exact hk h
      · exact hn h
    rw [if_neg hN]
    by_cases hs : sameB e (bare e) = false
    · rw [if_pos hs, if_pos (.inl hs)]
    · rw [if_neg hs]
      by_cases hc : checkOf (words (textOf e)) (wordN e.kind.toNat) (patN e.kind.toNat) ≠ 0
      · rw [if_pos hc, if_pos (.inr hc)]
      · have hM : ¬ (sameB e (bare e) = false ∨ checkOf (words (textOf e)) (wordN e.kind.toNat) (patN e.kind.toNat) ≠ 0) := by
          rintro (h | h)
          · exact hs h
          · exact hc h
        rw [if_neg hc, if_neg hM]
end Go.Proofs.YtinabbdecmjcpaaGreatDoor.Ev
