/- Contracts of name.digit, small, Tenant, Target: whether a text may be a tenant's or a target's name, by its bytes; nothing that was there is changed. The contract of name.Number: the number of any digits, or what is wrong; nothing that was there is changed. Plain facts on digits and numbers: no program in sight. -/
import Derived.Lib.ItoaNum
import Derived.Test.YtinabbdecmjcpaaGreatDoorG00
namespace Go.Proofs.YtinabbdecmjcpaaGreatDoor.Named
open Go.RowKit Go.Proofs.YtinabbdecmjcpaaGreatDoor.Plain Go.Proofs.YtinabbdecmjcpaaGreatDoor.Words
set_option linter.unusedVariables false

def digitB (r : Int) : Bool := decide (48 ≤ r) && decide (r ≤ 57)
def lowB (r : Int) : Bool := decide (97 ≤ r) && decide (r ≤ 122)
def smallB (r : Int) : Bool := lowB r || digitB r || decide (r = 45)
def markB (r : Int) : Bool := smallB r || decide (r = 46) || decide (r = 58)

theorem digit_any (r : Int) (w : World) : Calls Tryz.prog 89 #[.int .i32 r] w fun e w' => e = .returned (.bool (digitB r)) ∧ w = w' := by
  by_cases h1 : 48 ≤ r
  · by_cases h2 : r ≤ 57
    · rw [show digitB r = true by simp [digitB, h1, h2]]
      go_enter Tryz.func89, Tryz.ntmps89
      go_wp2
      go_ret
      exact ⟨rfl, rfl⟩
    · rw [show digitB r = false by simp [digitB, h2]]
      go_enter Tryz.func89, Tryz.ntmps89
      go_wp2
      go_ret
      exact ⟨rfl, rfl⟩
  · rw [show digitB r = false by simp [digitB, h1]]
    go_enter Tryz.func89, Tryz.ntmps89
    go_wp2
    go_ret
    exact ⟨rfl, rfl⟩

theorem low_any (r : Int) (w : World) : Calls Tryz.prog 71 #[.int .i32 r] w fun e w' => e = .returned (.bool (lowB r)) ∧ w = w' := by
  by_cases h1 : 97 ≤ r
  · by_cases h2 : r ≤ 122
    · rw [show lowB r = true by simp [lowB, h1, h2]]
      go_enter Tryz.func71, Tryz.ntmps71
      go_wp2
      go_ret
      exact ⟨rfl, rfl⟩
    · rw [show lowB r = false by simp [lowB, h2]]
      go_enter Tryz.func71, Tryz.ntmps71
      go_wp2
      go_ret
      exact ⟨rfl, rfl⟩
  · rw [show lowB r = false by simp [lowB, h1]]
    go_enter Tryz.func71, Tryz.ntmps71
    go_wp2
    go_ret
    exact ⟨rfl, rfl⟩

theorem small_any (r : Int) (w : World) : Calls Tryz.prog 70 #[.int .i32 r] w fun e w' => e = .returned (.bool (smallB r)) ∧ w = w' := by
  by_cases h : 97 ≤ r ∧ r ≤ 122
  · obtain ⟨h1, h2⟩ := h
    rw [show smallB r = true by simp [smallB, lowB, h1, h2]]
    go_enter Tryz.func70, Tryz.ntmps70
    go_wp2
    go_ret
    exact ⟨rfl, rfl⟩
  · have hl : lowB r = false := by simp [lowB]; omega
    have e1 : smallB r = (digitB r || decide (r = 45)) := by simp [smallB, hl]
    rw [e1]
    clear e1 hl
    have hcase : r < 97 ∨ (97 ≤ r ∧ 122 < r) := by omega
    clear h
    have hd := Lib.hid (digit_any r)
    cases hb : digitB r
    · have HB := Lib.hid hb
      clear hb
      by_cases h45 : r = 45
      · subst h45
        rw [show (false || decide ((45 : Int) = 45)) = true by decide]
        clear hcase
        go_enter Tryz.func70, Tryz.ntmps70
        go_wp2_with (go_at_call 89; refine (hd.out _).mono ?_; rintro e w' ⟨rfl, rfl⟩; rw [HB.out])
        go_ret
        exact ⟨rfl, rfl⟩
      · rw [show (false || decide (r = 45)) = false by simp [h45]]
        have hq : (r == 45) = false := by simp [h45]
        rcases hcase with h | ⟨h, h'⟩
        · have hx : decide (97 ≤ r) = false := by simp; omega
          go_enter Tryz.func70, Tryz.ntmps70
          go_wp2_with (go_at_call 89; refine (hd.out _).mono ?_; rintro e w' ⟨rfl, rfl⟩; rw [HB.out])
          go_ret
          exact ⟨rfl, rfl⟩
        · have hx : decide (r ≤ 122) = false := by simp; omega
          go_enter Tryz.func70, Tryz.ntmps70
          go_wp2_with (go_at_call 89; refine (hd.out _).mono ?_; rintro e w' ⟨rfl, rfl⟩; rw [HB.out])
          go_ret
          exact ⟨rfl, rfl⟩
    · rw [show (true || decide (r = 45)) = true by simp]
      have HB := Lib.hid hb
      clear hb
      rcases hcase with h | ⟨h, h'⟩
      all_goals
        go_enter Tryz.func70, Tryz.ntmps70
        go_wp2_with (go_at_call 89; refine (hd.out _).mono ?_; rintro e w' ⟨rfl, rfl⟩; rw [HB.out])
        go_ret
        exact ⟨rfl, rfl⟩

theorem mark_any (r : Int) (w : World) : Calls Tryz.prog 91 #[.int .i32 r] w fun e w' => e = .returned (.bool (markB r)) ∧ w = w' := by
  have hd := Lib.hid (small_any r)
  have e1 : markB r = (smallB r || decide (r = 46) || decide (r = 58)) := rfl
  rw [e1]
  clear e1
  cases hb : smallB r
  · have HB := Lib.hid hb
    clear hb
    by_cases h46 : r = 46
    · subst h46
      rw [show (false || decide ((46 : Int) = 46) || decide ((46 : Int) = 58)) = true by decide]
      go_enter Tryz.func91, Tryz.ntmps91
      go_wp2_with (go_at_call 70; refine (hd.out _).mono ?_; rintro e w' ⟨rfl, rfl⟩; rw [HB.out])
      go_ret
      exact ⟨rfl, rfl⟩
    · by_cases h58 : r = 58
      · subst h58
        rw [show (false || decide ((58 : Int) = 46) || decide ((58 : Int) = 58)) = true by decide]
        go_enter Tryz.func91, Tryz.ntmps91
        go_wp2_with (go_at_call 70; refine (hd.out _).mono ?_; rintro e w' ⟨rfl, rfl⟩; rw [HB.out])
        go_ret
        exact ⟨rfl, rfl⟩
      · rw [show (false || decide (r = 46) || decide (r = 58)) = false by simp [h46, h58]]
        have hq : (r == 46) = false := by simp [h46]
        have hq' : (r == 58) = false := by simp [h58]
        go_enter Tryz.func91, Tryz.ntmps91
        go_wp2_with (go_at_call 70; refine (hd.out _).mono ?_; rintro e w' ⟨rfl, rfl⟩; rw [HB.out])
        go_ret
        exact ⟨rfl, rfl⟩
  · rw [show (true || decide (r = 46) || decide (r = 58)) = true by simp]
    have HB := Lib.hid hb
    clear hb
    go_enter Tryz.func91, Tryz.ntmps91
    go_wp2_with (go_at_call 70; refine (hd.out _).mono ?_; rintro e w' ⟨rfl, rfl⟩; rw [HB.out])
    go_ret
    exact ⟨rfl, rfl⟩

/-- A name of 1 to 'most' bytes, all of a kind, the first one of another kind, too. -/
def namedB (most : Nat) (p q : Int → Bool) (l : List UInt8) : Bool := decide (1 ≤ l.length) && decide (l.length ≤ most) && l.all (fun c => p c.toNat) && (match l with | [] => false | c :: _ => q c.toNat)

theorem smallB_high (n : Nat) (h : 128 ≤ n) : smallB n = false := by simp [smallB, lowB, digitB]; omega
theorem markB_high (n : Nat) (h : 128 ≤ n) : markB n = false := by simp [markB, smallB_high n h]; omega

/-- What is known of a beginning. -/
def Begun (p q : Int → Bool) (s : ByteArray) (pos : Nat) : Prop := (∀ j (h : j < s.size), j < pos → p (s[j]'h).toNat = true) ∧ (0 < pos → ∀ h : 0 < s.size, q (s[0]'h).toNat = true)

theorem all_iff (p : Int → Bool) (s : ByteArray) : (L s).all (fun c => p c.toNat) = true ↔ ∀ j (h : j < s.size), p (s[j]'h).toNat = true := by
  rw [List.all_eq_true]
  constructor
  · intro h j hj
    exact h _ (List.mem_of_getElem? (get_L s j hj))
  · intro h c hc
    obtain ⟨j, hj, rfl⟩ := List.mem_iff_getElem.1 hc
    rw [L_len] at hj
    have := h j hj
    simp only [Array.getElem_toList]
    exact this

theorem head_L (s : ByteArray) (h : 0 < s.size) : ∃ l, L s = (s[0]'h) :: l := ⟨_, by simpa using drop_cons s 0 h⟩

theorem namedB_eq (most : Nat) (p q : Int → Bool) (s : ByteArray) (h : 0 < s.size) (hm : s.size ≤ most) : namedB most p q (L s) = ((L s).all (fun c => p c.toNat) && q (s[0]'h).toNat) := by
  obtain ⟨l, hl⟩ := head_L s h
  unfold namedB
  rw [L_len, decide_eq_true (by omega : 1 ≤ s.size), decide_eq_true hm, hl]
  simp

theorem named_end (most : Nat) (p q : Int → Bool) (s : ByteArray) (h : 0 < s.size) (hm : s.size ≤ most) (hb : Begun p q s s.size) : namedB most p q (L s) = true := by
  rw [namedB_eq most p q s h hm, Bool.and_eq_true, all_iff]
  exact ⟨fun j hj => hb.1 j hj hj, hb.2 h h⟩

theorem named_bad (most : Nat) (p q : Int → Bool) (s : ByteArray) (h : 0 < s.size) (hm : s.size ≤ most) (pos : Nat) (hp : pos < s.size) (hb : p (s[pos]'hp).toNat = false) : namedB most p q (L s) = false := by
  rw [namedB_eq most p q s h hm, Bool.and_eq_false_iff]
  left
  rw [Bool.eq_false_iff]
  intro e
  rw [all_iff] at e
  rw [e pos hp] at hb
  cases hb

theorem named_first (most : Nat) (p q : Int → Bool) (s : ByteArray) (h : 0 < s.size) (hm : s.size ≤ most) (hb : q (s[0]'h).toNat = false) : namedB most p q (L s) = false := by
  rw [namedB_eq most p q s h hm, hb, Bool.and_false]

theorem begun_next (p q : Int → Bool) (s : ByteArray) (pos : Nat) (hp : pos < s.size) (hb : Begun p q s pos) (h1 : p (s[pos]'hp).toNat = true) (h2 : pos = 0 → q (s[pos]'hp).toNat = true) : Begun p q s (pos + 1) := by
  refine ⟨fun j hj hlt => ?_, fun _ h0 => ?_⟩
  · by_cases e : j = pos
    · subst e; exact h1
    · exact hb.1 j hj (by omega)
  · by_cases e : pos = 0
    · subst e; exact h2 rfl
    · exact hb.2 (by omega) h0

theorem named_long (most : Nat) (p q : Int → Bool) (l : List UInt8) (h : most < l.length) : namedB most p q l = false := by
  unfold namedB
  rw [decide_eq_false (by omega : ¬ l.length ≤ most)]
  simp
theorem named_none (most : Nat) (p q : Int → Bool) (l : List UInt8) (h : l.length < 1) : namedB most p q l = false := by
  unfold namedB
  rw [decide_eq_false (by omega : ¬ 1 ≤ l.length)]
  simp

/-- One rune more: a letter of ASCII, or one that no kind takes. -/
theorem next_name {P : Program} {w wr : World} {s : ByteArray} {pos B : Nat} (hp : pos < s.size) (hit : wr.heap[B]? = some (.stringIter s pos)) (hbel : Below B w wr) :
    ∃ (r k : Nat) (W1 : World), (∀ ty, (Instr.next (.pointer (some ⟨B, 0, none⟩)) true ty).run P wr = .ok (.tuple #[.bool true, .int .i64 pos, .int .i32 r]) W1) ∧ W1.heap[B]? = some (.stringIter s (pos + k)) ∧ Below B w W1 ∧ r ≤ 2147483647 ∧
      ((r = (s[pos]'hp).toNat ∧ k = 1) ∨ (128 ≤ r ∧ 128 ≤ (s[pos]'hp).toNat)) := by
  refine ⟨(Utf8.decode s pos).1, (Utf8.decode s pos).2, wr.iterAt B s (pos + (Utf8.decode s pos).2), fun ty => Lib.run_next_any_at wr B s pos ty hit hp, Lib.iterAt_heap wr B s pos _ hit, Lib.below_iterAt hbel (Nat.le_refl _) s _, decode_le s pos, ?_⟩
  by_cases hc : (s[pos]'hp).toNat < 128
  · rw [decode_ascii s pos hp hc]
    exact .inl ⟨rfl, rfl⟩
  · exact .inr ⟨(decode_high s pos hp (by omega)).1, by omega⟩

set_option maxRecDepth 100000 in
set_option maxHeartbeats 1000000 in
theorem tenant_named (s : ByteArray) (w : World) (h0 : 0 < s.size) (hm : s.size ≤ 16) :
    Calls Tryz.prog 69 #[.string s, .int .i64 16, .func (.func 70) #[] #[], .func (.func 71) #[] #[]] w fun e w' => e = .returned (.bool (namedB 16 smallB lowB (L s))) ∧ Below w.heap.size w w' := by
  have hl0 : ((s.size : Int) == 0) = false := by rw [beq_eq_false_iff_ne]; omega
  obtain ⟨R, hR⟩ : ∃ R, R = namedB 16 smallB lowB (L s) := ⟨_, rfl⟩
  rw [← hR]
  have HR := Lib.hid hR
  clear hR
  go_enter Tryz.func69, Tryz.ntmps69
  go_wp2
  go_loopw [] (fun wr => ∃ pos : Nat, pos ≤ s.size ∧ wr.heap[w.heap.size]? = some (.stringIter s pos) ∧ Below w.heap.size w wr ∧ Begun smallB lowB s pos) (fun wr => s.size - wr.iterPos w.heap.size)
  case atStart => exact ⟨0, by omega, World.iter_heap w s 0, (Below.refl _ _).alloc (Nat.le_refl _) _, fun j hj h => absurd h (by omega), fun h => absurd h (by omega)⟩
  case round =>
    obtain ⟨pos, hps, hit, hbel, hbeg⟩ := hrel
    have HB := Lib.hid hbeg
    clear hbeg
    have hpos0 := iterPos_of hit
    by_cases hp : pos < s.size
    · obtain ⟨r, k, W1, hnx, hit2, hbel2, hr1, hcase⟩ := next_name (P := Tryz.prog) hp hit hbel
      have HC := Lib.hid hcase
      clear hcase hit hbel
      cases hpr : smallB r
      · have HP := Lib.hid hpr
        clear hpr
        go_wp2_with (go_at_call 70; refine (small_any _ _).mono ?_; rintro e w' ⟨rfl, rfl⟩; rw [HP.out])
        go_ret
        refine ⟨?_, hbel2⟩
        have : R = false := by
          rw [HR.out]
          rcases HC.out with ⟨h1, _⟩ | ⟨_, h2⟩
          · exact named_bad 16 smallB lowB s h0 hm pos hp (by rw [← h1]; exact HP.out)
          · exact named_bad 16 smallB lowB s h0 hm pos hp (smallB_high _ h2)
        rw [this]; rfl
      · have HP := Lib.hid hpr
        clear hpr
        have hasc : r = (s[pos]'hp).toNat ∧ k = 1 := by
          rcases HC.out with h | ⟨h1, _⟩
          · exact h
          · have := smallB_high _ h1
            rw [HP.out] at this
            cases this
        obtain ⟨hrc, rfl⟩ := hasc
        have HRC := Lib.hid hrc
        clear hrc
        by_cases hz : pos = 0
        · have HZ := Lib.hid hz
          have hzb : ((pos : Int) == 0) = true := by simp [hz]
          clear hz
          cases hqr : lowB r
          · have HQ := Lib.hid hqr
            clear hqr
            go_wp2_with (first | (go_at_call 70; refine (small_any _ _).mono ?_; rintro e w' ⟨rfl, rfl⟩; rw [HP.out]) | (go_at_call 71; refine (low_any _ _).mono ?_; rintro e w' ⟨rfl, rfl⟩; rw [HQ.out]))
            go_ret
            refine ⟨?_, hbel2⟩
            have : R = false := by
              rw [HR.out]
              have hz := HZ.out
              subst hz
              exact named_first 16 smallB lowB s h0 hm (by rw [← HRC.out]; exact HQ.out)
            rw [this]; rfl
          · have HQ := Lib.hid hqr
            clear hqr
            go_wp2_with (first | (go_at_call 70; refine (small_any _ _).mono ?_; rintro e w' ⟨rfl, rfl⟩; rw [HP.out]) | (go_at_call 71; refine (low_any _ _).mono ?_; rintro e w' ⟨rfl, rfl⟩; rw [HQ.out]))
            go_roundw
            case rel => exact ⟨pos + 1, by omega, hit2, hbel2, begun_next smallB lowB s pos hp HB.out (by rw [← HRC.out]; exact HP.out) (fun _ => by rw [← HRC.out]; exact HQ.out)⟩
            case measure => rw [iterPos_of hit2, hpos0]; omega
        · have hzb : ((pos : Int) == 0) = false := by simp [hz]
          go_wp2_with (first | (go_at_call 70; refine (small_any _ _).mono ?_; rintro e w' ⟨rfl, rfl⟩; rw [HP.out]))
          go_roundw
          case rel => exact ⟨pos + 1, by omega, hit2, hbel2, begun_next smallB lowB s pos hp HB.out (by rw [← HRC.out]; exact HP.out) (fun h => absurd h hz)⟩
          case measure => rw [iterPos_of hit2, hpos0]; omega
    · have hnx : ∀ ty, (Instr.next (.pointer (some ⟨w.heap.size, 0, none⟩)) true ty).run Tryz.prog wr = _ := fun ty => Lib.run_next_end_at wr w.heap.size s pos ty hit hp
      have he : R = true := by
        rw [HR.out]
        have hb := HB.out
        rw [show pos = s.size by omega] at hb
        exact named_end 16 smallB lowB s h0 hm hb
      have HE := Lib.hid he
      clear he
      go_wp2_with fail
      go_ret
      exact ⟨by rw [HE.out]; rfl, hbel⟩

theorem tenant_any (s : ByteArray) (w : World) (hs : s.size ≤ 1000000000000) : Calls Tryz.prog 48 #[.string s] w fun e w' => e = .returned (.bool (namedB 16 smallB lowB (L s))) ∧ Below w.heap.size w w' := by
  have hlen := L_len s
  by_cases h0 : 0 < s.size
  · by_cases hm : s.size ≤ 16
    · have hn := Lib.hid (tenant_named s w h0 hm)
      generalize namedB 16 smallB lowB (L s) = R at *
      go_enter Tryz.func48, Tryz.ntmps48
      go_wp2_with (go_at_call 69; refine hn.out.mono ?_; rintro e w' ⟨rfl, hb⟩)
      go_ret
      exact ⟨rfl, by assumption⟩
    · rw [named_long 16 smallB lowB (L s) (by omega)]
      have hl0 : ((s.size : Int) == 0) = false := by rw [beq_eq_false_iff_ne]; omega
      clear hlen
      go_enter Tryz.func48, Tryz.ntmps48
      go_wp2
      go_ret
      exact ⟨rfl, Below.refl _ _⟩
  · rw [named_none 16 smallB lowB (L s) (by omega)]
    have hl0 : ((s.size : Int) == 0) = true := by rw [beq_iff_eq]; omega
    clear hlen
    go_enter Tryz.func48, Tryz.ntmps48
    go_wp2
    go_ret
    exact ⟨rfl, Below.refl _ _⟩

set_option maxRecDepth 100000 in
set_option maxHeartbeats 1000000 in
theorem target_named (s : ByteArray) (w : World) (h0 : 0 < s.size) (hm : s.size ≤ 24) :
    Calls Tryz.prog 69 #[.string s, .int .i64 24, .func (.func 91) #[] #[], .func (.func 70) #[] #[]] w fun e w' => e = .returned (.bool (namedB 24 markB smallB (L s))) ∧ Below w.heap.size w w' := by
  have hl0 : ((s.size : Int) == 0) = false := by rw [beq_eq_false_iff_ne]; omega
  obtain ⟨R, hR⟩ : ∃ R, R = namedB 24 markB smallB (L s) := ⟨_, rfl⟩
  rw [← hR]
  have HR := Lib.hid hR
  clear hR
  go_enter Tryz.func69, Tryz.ntmps69
  go_wp2
  go_loopw [] (fun wr => ∃ pos : Nat, pos ≤ s.size ∧ wr.heap[w.heap.size]? = some (.stringIter s pos) ∧ Below w.heap.size w wr ∧ Begun markB smallB s pos) (fun wr => s.size - wr.iterPos w.heap.size)
  case atStart => exact ⟨0, by omega, World.iter_heap w s 0, (Below.refl _ _).alloc (Nat.le_refl _) _, fun j hj h => absurd h (by omega), fun h => absurd h (by omega)⟩
  case round =>
    obtain ⟨pos, hps, hit, hbel, hbeg⟩ := hrel
    have HB := Lib.hid hbeg
    clear hbeg
    have hpos0 := iterPos_of hit
    by_cases hp : pos < s.size
    · obtain ⟨r, k, W1, hnx, hit2, hbel2, hr1, hcase⟩ := next_name (P := Tryz.prog) hp hit hbel
      have HC := Lib.hid hcase
      clear hcase hit hbel
      cases hpr : markB r
      · have HP := Lib.hid hpr
        clear hpr
        go_wp2_with (go_at_call 91; refine (mark_any _ _).mono ?_; rintro e w' ⟨rfl, rfl⟩; rw [HP.out])
        go_ret
        refine ⟨?_, hbel2⟩
        have : R = false := by
          rw [HR.out]
          rcases HC.out with ⟨h1, _⟩ | ⟨_, h2⟩
          · exact named_bad 24 markB smallB s h0 hm pos hp (by rw [← h1]; exact HP.out)
          · exact named_bad 24 markB smallB s h0 hm pos hp (markB_high _ h2)
        rw [this]; rfl
      · have HP := Lib.hid hpr
        clear hpr
        have hasc : r = (s[pos]'hp).toNat ∧ k = 1 := by
          rcases HC.out with h | ⟨h1, _⟩
          · exact h
          · have := markB_high _ h1
            rw [HP.out] at this
            cases this
        obtain ⟨hrc, rfl⟩ := hasc
        have HRC := Lib.hid hrc
        clear hrc
        by_cases hz : pos = 0
        · have HZ := Lib.hid hz
          have hzb : ((pos : Int) == 0) = true := by simp [hz]
          clear hz
          cases hqr : smallB r
          · have HQ := Lib.hid hqr
            clear hqr
            go_wp2_with (first | (go_at_call 91; refine (mark_any _ _).mono ?_; rintro e w' ⟨rfl, rfl⟩; rw [HP.out]) | (go_at_call 70; refine (small_any _ _).mono ?_; rintro e w' ⟨rfl, rfl⟩; rw [HQ.out]))
            go_ret
            refine ⟨?_, hbel2⟩
            have : R = false := by
              rw [HR.out]
              have hz := HZ.out
              subst hz
              exact named_first 24 markB smallB s h0 hm (by rw [← HRC.out]; exact HQ.out)
            rw [this]; rfl
          · have HQ := Lib.hid hqr
            clear hqr
            go_wp2_with (first | (go_at_call 91; refine (mark_any _ _).mono ?_; rintro e w' ⟨rfl, rfl⟩; rw [HP.out]) | (go_at_call 70; refine (small_any _ _).mono ?_; rintro e w' ⟨rfl, rfl⟩; rw [HQ.out]))
            go_roundw
            case rel => exact ⟨pos + 1, by omega, hit2, hbel2, begun_next markB smallB s pos hp HB.out (by rw [← HRC.out]; exact HP.out) (fun _ => by rw [← HRC.out]; exact HQ.out)⟩
            case measure => rw [iterPos_of hit2, hpos0]; omega
        · have hzb : ((pos : Int) == 0) = false := by simp [hz]
          go_wp2_with (first | (go_at_call 91; refine (mark_any _ _).mono ?_; rintro e w' ⟨rfl, rfl⟩; rw [HP.out]))
          go_roundw
          case rel => exact ⟨pos + 1, by omega, hit2, hbel2, begun_next markB smallB s pos hp HB.out (by rw [← HRC.out]; exact HP.out) (fun h => absurd h hz)⟩
          case measure => rw [iterPos_of hit2, hpos0]; omega
    · have hnx : ∀ ty, (Instr.next (.pointer (some ⟨w.heap.size, 0, none⟩)) true ty).run Tryz.prog wr = _ := fun ty => Lib.run_next_end_at wr w.heap.size s pos ty hit hp
      have he : R = true := by
        rw [HR.out]
        have hb := HB.out
        rw [show pos = s.size by omega] at hb
        exact named_end 24 markB smallB s h0 hm hb
      have HE := Lib.hid he
      clear he
      go_wp2_with fail
      go_ret
      exact ⟨by rw [HE.out]; rfl, hbel⟩

theorem target_any (s : ByteArray) (w : World) (hs : s.size ≤ 1000000000000) : Calls Tryz.prog 76 #[.string s] w fun e w' => e = .returned (.bool (namedB 24 markB smallB (L s))) ∧ Below w.heap.size w w' := by
  have hlen := L_len s
  by_cases h0 : 0 < s.size
  · by_cases hm : s.size ≤ 24
    · have hn := Lib.hid (target_named s w h0 hm)
      generalize namedB 24 markB smallB (L s) = R at *
      go_enter Tryz.func76, Tryz.ntmps76
      go_wp2_with (go_at_call 69; refine hn.out.mono ?_; rintro e w' ⟨rfl, hb⟩)
      go_ret
      exact ⟨rfl, by assumption⟩
    · rw [named_long 24 markB smallB (L s) (by omega)]
      have hl0 : ((s.size : Int) == 0) = false := by rw [beq_eq_false_iff_ne]; omega
      clear hlen
      go_enter Tryz.func76, Tryz.ntmps76
      go_wp2
      go_ret
      exact ⟨rfl, Below.refl _ _⟩
  · rw [named_none 24 markB smallB (L s) (by omega)]
    have hl0 : ((s.size : Int) == 0) = true := by rw [beq_iff_eq]; omega
    clear hlen
    go_enter Tryz.func76, Tryz.ntmps76
    go_wp2
    go_ret
    exact ⟨rfl, Below.refl _ _⟩
end Go.Proofs.YtinabbdecmjcpaaGreatDoor.Named

namespace Go.Proofs.YtinabbdecmjcpaaGreatDoor.Number
open Go.RowKit Go.Proofs.YtinabbdecmjcpaaGreatDoor Go.Proofs.YtinabbdecmjcpaaGreatDoor.Plain Go.Proofs.YtinabbdecmjcpaaGreatDoor.Words Go.Proofs.YtinabbdecmjcpaaGreatDoor.Named
set_option linter.unusedVariables false

/-- The value of digits. -/
def val (n : Nat) : List UInt8 → Nat
  | [] => n
  | c :: l => val (n * 10 + (c.toNat - 48)) l

def digs (l : List UInt8) : Bool := l.all fun c => digitB c.toNat

/-- What Number answers: the number, and the error. -/
def numOf (l : List UInt8) : Nat × Nat :=
  if l = [] ∨ (l.head? = some 48 ∧ 1 < l.length) ∨ digs l = false then (0, 2)
  else if val 0 l < 18446744073709551616 then (val 0 l, 0) else (0, 6)

theorem val_append (n : Nat) (a : List UInt8) (c : UInt8) : val n (a ++ [c]) = val n a * 10 + (c.toNat - 48) := by
  induction a generalizing n with
  | nil => rfl
  | cons x l ih => exact ih _

theorem take_next (s : ByteArray) (pos : Nat) (hp : pos < s.size) : (L s).take (pos + 1) = (L s).take pos ++ [s[pos]'hp] := by
  rw [List.take_add_one, get_L s pos hp]
  rfl

theorem digitB_high (n : Nat) (h : 128 ≤ n) : digitB n = false := by simp [digitB]; omega

theorem num_bad (s : ByteArray) (pos : Nat) (hp : pos < s.size) (hb : digitB (s[pos]'hp).toNat = false) : numOf (L s) = (0, 2) := by
  unfold numOf
  rw [if_pos]
  refine .inr (.inr ?_)
  rw [Bool.eq_false_iff]
  intro e
  unfold digs at e
  rw [all_iff] at e
  rw [e pos hp] at hb
  cases hb

theorem num_end (s : ByteArray) (h0 : 0 < s.size) (h1 : ¬ ((L s).head? = some 48 ∧ 1 < s.size)) (hd : ∀ j (h : j < s.size), digitB (s[j]'h).toNat = true) :
    numOf (L s) = if val 0 (L s) < 18446744073709551616 then (val 0 (L s), 0) else (0, 6) := by
  unfold numOf
  rw [if_neg]
  rintro (h | h | h)
  · have := L_len s; rw [h] at this; simp at this; omega
  · rw [L_len] at h; exact h1 h
  · have : digs (L s) = true := by unfold digs; rw [all_iff]; exact hd
    rw [this] at h; cases h

theorem head_get (s : ByteArray) (h : 0 < s.size) : (L s).head? = some (s[0]'h) := by
  obtain ⟨l, hl⟩ := head_L s h
  rw [hl]; rfl

theorem val_start (s : ByteArray) : Hid (0 = val 0 ((L s).take 0)) := Lib.hid rfl
theorem dig_start (s : ByteArray) : Hid (∀ j (h : j < s.size), j < 0 → digitB (s[j]'h).toNat = true) := Lib.hid fun j hj h => absurd h (by omega)

theorem wrap64_lo (n : Int) : 0 ≤ IntKind.u64.wrap n := by unfold IntKind.wrap; simp [IntKind.signed, IntKind.bits]; omega
theorem wrap64_hi (n : Int) : IntKind.u64.wrap n < 18446744073709551616 := by unfold IntKind.wrap; simp [IntKind.signed, IntKind.bits]; omega

/-- What the loop keeps. -/
def NumRel (s : ByteArray) (w : World) (n o : Value) (wr : World) : Prop :=
  ∃ (pos V : Nat), pos ≤ s.size ∧ wr.heap[w.heap.size]? = some (.stringIter s pos) ∧ Below w.heap.size w wr ∧ Hid (V = val 0 ((L s).take pos)) ∧ Hid (∀ j (h : j < s.size), j < pos → digitB (s[j]'h).toNat = true) ∧
    ((V < 18446744073709551616 ∧ n = .int .u64 V ∧ o = .bool false) ∨ (18446744073709551616 ≤ V ∧ (∃ x : Int, 0 ≤ x ∧ x < 18446744073709551616 ∧ n = .int .u64 x) ∧ o = .bool true))

set_option maxRecDepth 100000 in
set_option maxHeartbeats 1000000 in
theorem number_more (s : ByteArray) (w : World) (h0 : 0 < s.size) (hs : s.size ≤ 1000000000000) (hz : ¬ ((L s).head? = some 48 ∧ 1 < s.size)) :
    Calls Tryz.prog 78 #[.string s] w fun e w' => e = .returned (.tuple #[.int .u64 (numOf (L s)).1, .int .i64 (numOf (L s)).2]) ∧ Below w.heap.size w w' := by
  obtain ⟨e1, e2⟩ := empty_no s h0
  obtain ⟨R, hR⟩ : ∃ R, R = numOf (L s) := ⟨_, rfl⟩
  rw [← hR]
  have HR := Lib.hid hR
  have HZ := Lib.hid hz
  have HH := Lib.hid (head_get s h0)
  clear hR hz
  have hfirst : (((s[0]'h0).toNat : Int) == 48) = false ∨ ((((s[0]'h0).toNat : Int) == 48) = true ∧ ((s.size : Int) ≤ 1)) := by
    by_cases h : (s[0]'h0).toNat = 48
    · refine .inr ⟨by rw [h]; rfl, ?_⟩
      by_cases h' : 1 < s.size
      · exact absurd ⟨by rw [HH.out]; congr 1; exact UInt8.toNat_inj.1 h, h'⟩ HZ.out
      · omega
    · exact .inl (by rw [beq_eq_false_iff_ne]; omega)
  rcases hfirst with hf | ⟨hf, hf'⟩
  all_goals
    go_enter Tryz.func78, Tryz.ntmps78
    go_wp2
    go_loopw [4, 5] (fun n o wr => NumRel s w n o wr) (fun _ _ wr => s.size - wr.iterPos w.heap.size)
    case atStart => exact ⟨0, 0, by omega, World.iter_heap w s 0, (Below.refl _ _).alloc (Nat.le_refl _) _, val_start s, dig_start s, .inl ⟨by decide, rfl, rfl⟩⟩
    case round =>
      obtain ⟨pos, V, hps, hit, hbel, HV, HD, hcase⟩ := hrel
      have hpos0 := iterPos_of hit
      by_cases hp : pos < s.size
      · obtain ⟨r, k, W1, hnx, hit2, hbel2, hr1, hc⟩ := next_name (P := Tryz.prog) hp hit hbel
        have HC := Lib.hid hc
        clear hc hit hbel
        cases hpr : digitB r
        · have HP := Lib.hid hpr
          clear hpr
          have hRv : R = (0, 2) := by
            rw [HR.out]
            rcases HC.out with ⟨h1, _⟩ | ⟨_, h2⟩
            · exact num_bad s pos hp (by rw [← h1]; exact HP.out)
            · exact num_bad s pos hp (digitB_high _ h2)
          subst hRv
          rcases hcase with ⟨_, rfl, rfl⟩ | ⟨_, ⟨x, hx0, hx1, rfl⟩, rfl⟩
          all_goals
            go_wp2_with (go_at_call 89; refine (digit_any _ _).mono ?_; rintro e w' ⟨rfl, rfl⟩; rw [HP.out])
            go_ret2
            exact ⟨rfl, hbel2⟩
        · obtain ⟨hrc, rfl⟩ : r = (s[pos]'hp).toNat ∧ k = 1 := by
            rcases HC.out with h | ⟨h1, _⟩
            · exact h
            · rw [digitB_high _ h1] at hpr; cases hpr
          have hr : 48 ≤ r ∧ r ≤ 57 := by
            have := hpr
            simp [digitB] at this
            omega
          obtain ⟨d, hrd⟩ : ∃ d, r = 48 + d := ⟨r - 48, by omega⟩
          have hd9 : d ≤ 9 := by omega
          have HV2 : Hid (V * 10 + d = val 0 ((L s).take (pos + 1))) := Lib.hid (by rw [take_next s pos hp, val_append, ← HV.out, ← hrc]; omega)
          have HD2 : Hid (∀ j (h : j < s.size), j < pos + 1 → digitB (s[j]'h).toNat = true) := Lib.hid (by
            intro j hj hlt
            by_cases h : j < pos
            · exact HD.out j hj h
            · obtain rfl : j = pos := by omega
              rw [← hrc]; exact hpr)
          have HP := Lib.hid hpr
          clear hpr hrc HC HV HD
          have w1 : IntKind.i32.wrap ((r : Int) - 48) = (d : Int) := by rw [hrd, show ((48 + d : Nat) : Int) - 48 = (d : Int) by omega]; exact IntWalk.i32_in _ (by omega)
          clear hrd
          rcases hcase with ⟨hlt, rfl, rfl⟩ | ⟨hge, ⟨x, hx0, hx1, rfl⟩, rfl⟩
          · by_cases htest : V * 10 + d < 18446744073709551616
            · go_wp2_with (go_at_call 89; refine (digit_any _ _).mono ?_; rintro e w' ⟨rfl, rfl⟩; rw [HP.out])
              go_roundw
              case rel => exact ⟨pos + 1, V * 10 + d, by omega, hit2, hbel2, HV2, HD2, .inl ⟨htest, by go_num, rfl⟩⟩
              case measure => rw [iterPos_of hit2, hpos0]; omega
            · go_wp2_with (go_at_call 89; refine (digit_any _ _).mono ?_; rintro e w' ⟨rfl, rfl⟩; rw [HP.out])
              go_roundw
              case rel => exact ⟨pos + 1, V * 10 + d, by omega, hit2, hbel2, HV2, HD2, .inr ⟨by omega, ⟨_, wrap64_lo _, wrap64_hi _, rfl⟩, rfl⟩⟩
              case measure => rw [iterPos_of hit2, hpos0]; omega
          · by_cases htest : (18446744073709551615 - (d : Int)) / 10 < x
            all_goals
              go_wp2_with (go_at_call 89; refine (digit_any _ _).mono ?_; rintro e w' ⟨rfl, rfl⟩; rw [HP.out])
              go_roundw
              case rel => first
                | exact ⟨pos + 1, V * 10 + d, by omega, hit2, hbel2, HV2, HD2, .inr ⟨by omega, ⟨_, wrap64_lo _, wrap64_hi _, rfl⟩, rfl⟩⟩
                | exact ⟨pos + 1, V * 10 + d, by omega, hit2, hbel2, HV2, HD2, .inr ⟨by omega, ⟨x * 10 + d, by omega, by omega, rfl⟩, rfl⟩⟩
              case measure => rw [iterPos_of hit2, hpos0]; omega
      · have hnx : ∀ ty, (Instr.next (.pointer (some ⟨w.heap.size, 0, none⟩)) true ty).run Tryz.prog wr = _ := fun ty => Lib.run_next_end_at wr w.heap.size s pos ty hit hp
        have hV : V = val 0 (L s) := by
          rw [HV.out, List.take_of_length_le]
          rw [L_len]; omega
        have hD : ∀ j (h : j < s.size), digitB (s[j]'h).toNat = true := fun j h => HD.out j h (by omega)
        have hRR := HR.out
        rw [num_end s h0 HZ.out hD, ← hV] at hRR
        clear hV hD HV HD
        rcases hcase with ⟨hlt, rfl, rfl⟩ | ⟨hge, ⟨x, hx0, hx1, rfl⟩, rfl⟩
        · rw [if_pos hlt] at hRR
          subst hRR
          go_wp2_with fail
          go_ret2
          exact ⟨rfl, hbel⟩
        · rw [if_neg (by omega)] at hRR
          subst hRR
          go_wp2_with fail
          go_ret2
          exact ⟨rfl, hbel⟩

/-- name.Number, of any text. -/
theorem number_any (s : ByteArray) (w : World) (hs : s.size ≤ 1000000000000) :
    Calls Tryz.prog 78 #[.string s] w fun e w' => e = .returned (.tuple #[.int .u64 (numOf (L s)).1, .int .i64 (numOf (L s)).2]) ∧ Below w.heap.size w w' := by
  by_cases h : 0 < s.size
  · by_cases hz : (L s).head? = some 48 ∧ 1 < s.size
    · obtain ⟨e1, e2⟩ := empty_no s h
      rw [show numOf (L s) = (0, 2) by unfold numOf; rw [if_pos (.inr (.inl (by rw [L_len]; exact hz)))]]
      obtain ⟨h1, h2⟩ := hz
      rw [head_get s h] at h1
      have h3 : (s[0]'h).toNat = 48 := by rw [Option.some.inj h1]; rfl
      have h4 : (((s[0]'h).toNat : Int) == 48) = true := by rw [h3]; rfl
      clear h1 h3
      go_enter Tryz.func78, Tryz.ntmps78
      go_wp2
      go_ret2
      exact ⟨rfl, Below.refl _ _⟩
    · exact number_more s w h hs hz
  · have e : s = ⟨#[]⟩ := by
      have := L_len s
      rw [← S_L s, List.length_eq_zero_iff.1 (by omega : (L s).length = 0)]
    subst e
    rw [show numOf (L ⟨#[]⟩) = (0, 2) from rfl]
    go_enter Tryz.func78, Tryz.ntmps78
    go_wp2
    go_ret2
    exact ⟨rfl, Below.refl _ _⟩
end Go.Proofs.YtinabbdecmjcpaaGreatDoor.Number

namespace Go.Proofs.YtinabbdecmjcpaaGreatDoor.Number
open Go.Proofs.YtinabbdecmjcpaaGreatDoor Go.Proofs.YtinabbdecmjcpaaGreatDoor.Plain Go.Proofs.YtinabbdecmjcpaaGreatDoor.Named
open Go.Lib (decDigits nDigits)
set_option linter.unusedVariables false

theorem val_nil (n : Nat) : val n [] = n := rfl
theorem val_cons (n : Nat) (c : UInt8) (l : List UInt8) : val n (c :: l) = val (n * 10 + (c.toNat - 48)) l := by exact id rfl
theorem val_from : ∀ (l : List UInt8) (n : Nat), val n l = n * 10 ^ l.length + val 0 l
  | [], n => by rw [val_nil, val_nil]; simp
  | c :: l, n => by
    rw [val_cons, val_cons, val_from l (n * 10 + (c.toNat - 48)), val_from l (0 * 10 + (c.toNat - 48)), List.length_cons, Nat.pow_succ]
    rw [Nat.add_mul, Nat.zero_mul, Nat.zero_add, Nat.mul_assoc, Nat.mul_comm 10, Nat.add_assoc]
theorem digit_bd {c : UInt8} (h : digitB c.toNat = true) : 48 ≤ c.toNat ∧ c.toNat ≤ 57 := by
  simp [digitB] at h
  omega
theorem val_lt : ∀ (l : List UInt8), digs l = true → val 0 l < 10 ^ l.length
  | [], _ => by rw [val_nil]; simp
  | c :: l, h => by
    have h1 : digitB c.toNat = true := by simp [digs] at h; exact h.1
    have h2 : digs l = true := by simp [digs] at h ⊢; exact h.2
    have ih := val_lt l h2
    obtain ⟨a, b⟩ := digit_bd h1
    rw [val_cons, val_from, List.length_cons, Nat.pow_succ]
    have : (0 * 10 + (c.toNat - 48)) * 10 ^ l.length ≤ 9 * 10 ^ l.length := Nat.mul_le_mul_right _ (by omega)
    omega
theorem val_ge (c : UInt8) (l : List UInt8) (h : digitB c.toNat = true) (hc : c ≠ 48) : 10 ^ l.length ≤ val 0 (c :: l) := by
  obtain ⟨a, b⟩ := digit_bd h
  have : c.toNat ≠ 48 := fun e => hc (UInt8.toNat_inj.1 e)
  rw [val_cons, val_from]
  have : 1 * 10 ^ l.length ≤ (0 * 10 + (c.toNat - 48)) * 10 ^ l.length := Nat.mul_le_mul_right _ (by omega)
  omega
/-- Of digits as many, the first in order is the smaller number. -/
theorem less_val : ∀ (a b : List UInt8), a.length = b.length → digs a = true → digs b = true → Op.bytesLess a b = decide (val 0 a < val 0 b)
  | [], [], _, _, _ => by rw [val_nil]; simp [Op.bytesLess]
  | [], _ :: _, h, _, _ => by simp at h
  | _ :: _, [], h, _, _ => by simp at h
  | c :: a, d :: b, h, ha, hb => by
    have hl : a.length = b.length := by simpa using h
    have h1 : digitB c.toNat = true := by simp [digs] at ha; exact ha.1
    have h2 : digs a = true := by simp [digs] at ha ⊢; exact ha.2
    have h3 : digitB d.toNat = true := by simp [digs] at hb; exact hb.1
    have h4 : digs b = true := by simp [digs] at hb ⊢; exact hb.2
    have ih := less_val a b hl h2 h4
    obtain ⟨p, q⟩ := digit_bd h1
    obtain ⟨p', q'⟩ := digit_bd h3
    have va := val_lt a h2
    have vb := val_lt b h4
    rw [hl] at va
    have ea : val 0 (c :: a) = (c.toNat - 48) * 10 ^ b.length + val 0 a := by rw [val_cons, val_from, hl]; simp
    have eb : val 0 (d :: b) = (d.toNat - 48) * 10 ^ b.length + val 0 b := by rw [val_cons, val_from]; simp
    rw [ea, eb]
    generalize 10 ^ b.length = T at *
    by_cases e : c.toNat = d.toNat
    · have e' : c = d := UInt8.toNat_inj.1 e
      subst e'
      rw [show Op.bytesLess (c :: a) (c :: b) = Op.bytesLess a b by simp [Op.bytesLess], ih]
      simp
    · by_cases hlt : c.toNat < d.toNat
      · have hs : (c.toNat - 48 + 1) * T ≤ (d.toNat - 48) * T := Nat.mul_le_mul_right _ (by omega)
        rw [Nat.add_mul, Nat.one_mul] at hs
        rw [show Op.bytesLess (c :: a) (d :: b) = true by simp [Op.bytesLess, UInt8.lt_iff_toNat_lt, hlt]]
        symm
        simp
        omega
      · have hs : (d.toNat - 48 + 1) * T ≤ (c.toNat - 48) * T := Nat.mul_le_mul_right _ (by omega)
        rw [Nat.add_mul, Nat.one_mul] at hs
        rw [show Op.bytesLess (c :: a) (d :: b) = false by simp [Op.bytesLess, UInt8.lt_iff_toNat_lt, hlt]; intro x; exact absurd (congrArg UInt8.toNat x) e]
        symm
        simp
        omega
theorem val_inj : ∀ (a b : List UInt8), a.length = b.length → digs a = true → digs b = true → val 0 a = val 0 b → a = b
  | [], [], _, _, _, _ => rfl
  | [], _ :: _, h, _, _, _ => by simp at h
  | _ :: _, [], h, _, _, _ => by simp at h
  | c :: a, d :: b, h, ha, hb, hv => by
    have hl : a.length = b.length := by simpa using h
    have h1 : digitB c.toNat = true := by simp [digs] at ha; exact ha.1
    have h2 : digs a = true := by simp [digs] at ha ⊢; exact ha.2
    have h3 : digitB d.toNat = true := by simp [digs] at hb; exact hb.1
    have h4 : digs b = true := by simp [digs] at hb ⊢; exact hb.2
    obtain ⟨p, q⟩ := digit_bd h1
    obtain ⟨p', q'⟩ := digit_bd h3
    have va := val_lt a h2
    have vb := val_lt b h4
    rw [hl] at va
    have ea : val 0 (c :: a) = (c.toNat - 48) * 10 ^ b.length + val 0 a := by rw [val_cons, val_from, hl]; simp
    have eb : val 0 (d :: b) = (d.toNat - 48) * 10 ^ b.length + val 0 b := by rw [val_cons, val_from]; simp
    rw [ea, eb] at hv
    have key : c.toNat = d.toNat ∧ val 0 a = val 0 b := by
      generalize 10 ^ b.length = T at *
      by_cases hlt : c.toNat < d.toNat
      · have hs : (c.toNat - 48 + 1) * T ≤ (d.toNat - 48) * T := Nat.mul_le_mul_right _ (by omega)
        rw [Nat.add_mul, Nat.one_mul] at hs
        omega
      · by_cases hgt : d.toNat < c.toNat
        · have hs : (d.toNat - 48 + 1) * T ≤ (c.toNat - 48) * T := Nat.mul_le_mul_right _ (by omega)
          rw [Nat.add_mul, Nat.one_mul] at hs
          omega
        · have e : c.toNat = d.toNat := by omega
          rw [e] at hv
          exact ⟨e, by omega⟩
    rw [UInt8.toNat_inj.1 key.1, val_inj a b hl h2 h4 key.2]

/-! ### The digits of a number -/
theorem dg_toNat (n : Nat) (h : n < 10) : (UInt8.ofNat (48 + n)).toNat = 48 + n := by
  rw [UInt8.toNat_ofNat']; omega
theorem digs_dec (n : Nat) : digs (decDigits n) = true := by
  induction n using Nat.strongRecOn with
  | _ n ih =>
    rw [decDigits]
    split
    · rename_i h
      simp only [digs, List.all_cons, List.all_nil, Bool.and_true]
      rw [dg_toNat n h]
      simp [digitB]; omega
    · rename_i h
      have := ih (n / 10) (by omega)
      simp only [digs, List.all_append, List.all_cons, List.all_nil, Bool.and_true, Bool.and_eq_true] at this ⊢
      refine ⟨this, ?_⟩
      rw [dg_toNat _ (by omega)]
      simp [digitB]; omega
theorem val_dec (n : Nat) : val 0 (decDigits n) = n := by
  induction n using Nat.strongRecOn with
  | _ n ih =>
    rw [decDigits]
    split
    · rename_i h
      rw [val_cons, val_nil, dg_toNat n h]; omega
    · rename_i h
      rw [val_append, ih (n / 10) (by omega), dg_toNat _ (by omega)]
      omega
theorem dec_ne (n : Nat) : decDigits n ≠ [] := by
  intro h
  have := Go.Lib.decDigits_length n
  rw [h] at this
  have := Go.Lib.nDigits_pos n
  simp at *
  omega
theorem dec_head (n : Nat) (h : 1 ≤ n) : (decDigits n).head? ≠ some 48 := by
  induction n using Nat.strongRecOn with
  | _ n ih =>
    rw [decDigits]
    split
    · rename_i h'
      intro e
      have e' := congrArg UInt8.toNat (Option.some.inj e)
      rw [dg_toNat n h'] at e'
      have : (48 : UInt8).toNat = 48 := rfl
      omega
    · rename_i h'
      have := ih (n / 10) (by omega) (by omega)
      cases hd : decDigits (n / 10) with
      | nil => exact absurd hd (dec_ne _)
      | cons x l => rw [hd] at this; simpa using this
/-- The digits of a number lead back to it. -/
theorem num_dec (n : Nat) (h : n < 18446744073709551616) : numOf (decDigits n) = (n, 0) := by
  unfold numOf
  rw [if_neg, val_dec, if_pos h]
  rintro (e | ⟨e1, e2⟩ | e)
  · exact dec_ne n e
  · by_cases h0 : n = 0
    · subst h0
      rw [decDigits, dif_pos (by omega)] at e2
      simp at e2
    · exact dec_head n (by omega) e1
  · rw [digs_dec] at e; cases e
/-- Whoever is digits is the digits of their number. -/
theorem dec_num (l : List UInt8) (n : Nat) (h : numOf l = (n, 0)) : decDigits n = l ∧ n < 18446744073709551616 := by
  unfold numOf at h
  split at h
  · cases h
  · rename_i hc
    split at h
    · rename_i hv
      have e : val 0 l = n := congrArg Prod.fst h
      refine ⟨?_, by omega⟩
      have hd : digs l = true := by
        cases hx : digs l
        · exact absurd (.inr (.inr hx)) hc
        · rfl
      have hne : l ≠ [] := fun x => hc (.inl x)
      have hl : (decDigits n).length = l.length := by
        rw [Go.Lib.decDigits_length]
        cases l with
        | nil => exact absurd rfl hne
        | cons c t =>
          have ht := val_lt _ hd
          by_cases h48 : c = 48
          · subst h48
            have : t = [] := by
              cases t with
              | nil => rfl
              | cons x y => exact absurd (.inr (.inl ⟨rfl, by simp⟩)) hc
            subst this
            rw [← e]
            exact Go.Lib.nDigits_small (by rw [val_cons, val_nil]; decide)
          · have hc1 : digitB c.toNat = true := by simp [digs] at hd; exact hd.1
            have := val_ge c t hc1 h48
            rw [e] at this ht
            exact Go.Lib.nDigits_unique t.length n this (by simpa using ht)
      exact val_inj _ _ hl (digs_dec n) hd (by rw [val_dec, e])
    · cases h
theorem dec_len (n : Nat) (h : n < 18446744073709551616) : (decDigits n).length ≤ 20 := by
  rw [Go.Lib.decDigits_length]
  by_cases h1 : 1 ≤ n
  · have := Go.Lib.numDigits_eq n h1 h
    split at this <;> omega
  · obtain rfl : n = 0 := by omega
    rw [Go.Lib.nDigits_small (by omega)]; omega
/-- What is longer than 20 digits is too great, as is what is behind the greatest, of as many. -/
theorem num_long (l : List UInt8) (hd : digs l = true) (h0 : l ≠ []) (hz : ¬ (l.head? = some 48 ∧ 1 < l.length)) (hl : 20 < l.length) : numOf l = (0, 6) := by
  unfold numOf
  rw [if_neg, if_neg]
  · intro hv
    cases l with
    | nil => exact h0 rfl
    | cons c t =>
      have h48 : c ≠ 48 := fun e => hz ⟨by rw [e]; rfl, by simp at hl ⊢; omega⟩
      have hc1 : digitB c.toNat = true := by simp [digs] at hd; exact hd.1
      have := val_ge c t hc1 h48
      have : 10 ^ 20 ≤ 10 ^ t.length := Nat.pow_le_pow_right (by omega) (by simp at hl; omega)
      omega
  · rintro (e | e | e)
    · exact h0 e
    · exact hz e
    · rw [hd] at e; cases e
abbrev most : List UInt8 := [49, 56, 52, 52, 54, 55, 52, 52, 48, 55, 51, 55, 48, 57, 53, 53, 49, 54, 49, 53]
theorem most_val : val 0 most = 18446744073709551615 := by decide
theorem most_cmp (l : List UInt8) (hd : digs l = true) (hl : l.length = 20) : (Op.bytesLess l most || l == most) = decide (val 0 l < 18446744073709551616) := by
  have hm : digs most = true := by decide
  rw [less_val l most hl hd hm, most_val]
  by_cases e : l = most
  · subst e
    rw [most_val]; simp
  · have hne : (l == most) = false := by simpa using e
    have : val 0 l ≠ 18446744073709551615 := fun x => e (val_inj l most hl hd hm (by rw [x, most_val]))
    rw [hne, Bool.or_false]
    simp
    omega
theorem num_short (l : List UInt8) (hd : digs l = true) (hl : l.length < 20) : val 0 l < 18446744073709551616 := by
  have := val_lt l hd
  have : 10 ^ l.length ≤ 10 ^ 19 := Nat.pow_le_pow_right (by omega) (by omega)
  omega
end Go.Proofs.YtinabbdecmjcpaaGreatDoor.Number
