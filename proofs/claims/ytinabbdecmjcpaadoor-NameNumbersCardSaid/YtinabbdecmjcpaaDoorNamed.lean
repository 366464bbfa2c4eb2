/- Contracts of name.digit, small, Tenant, Target: whether a text may be a tenant's or a target's name, by its bytes; nothing that was there is changed. -/
import Derived.Test.YtinabbdecmjcpaaDoorWords
namespace Go.Proofs.YtinabbdecmjcpaaDoor.Named
open Go.RowKit Go.Proofs.YtinabbdecmjcpaaDoor.Plain Go.Proofs.YtinabbdecmjcpaaDoor.Words
set_option linter.unusedVariables false

def digitB (r : Int) : Bool := decide (48 ≤ r) && decide (r ≤ 57)
def lowB (r : Int) : Bool := decide (97 ≤ r) && decide (r ≤ 122)
def smallB (r : Int) : Bool := lowB r || digitB r || decide (r = 45)
def markB (r : Int) : Bool := smallB r || decide (r = 46) || decide (r = 58)

theorem digit_any (r : Int) (w : World) : Calls Tryd.prog 20 #[.int .i32 r] w fun e w' => e = .returned (.bool (digitB r)) ∧ w = w' := by
  by_cases h1 : 48 ≤ r
  · by_cases h2 : r ≤ 57
    · rw [show digitB r = true by simp [digitB, h1, h2]]
      go_enter Tryd.func20, Tryd.ntmps20
      go_wp2
      go_ret
      exact ⟨rfl, rfl⟩
    · rw [show digitB r = false by simp [digitB, h2]]
      go_enter Tryd.func20, Tryd.ntmps20
      go_wp2
      go_ret
      exact ⟨rfl, rfl⟩
  · rw [show digitB r = false by simp [digitB, h1]]
    go_enter Tryd.func20, Tryd.ntmps20
    go_wp2
    go_ret
    exact ⟨rfl, rfl⟩

theorem low_any (r : Int) (w : World) : Calls Tryd.prog 39 #[.int .i32 r] w fun e w' => e = .returned (.bool (lowB r)) ∧ w = w' := by
  by_cases h1 : 97 ≤ r
  · by_cases h2 : r ≤ 122
    · rw [show lowB r = true by simp [lowB, h1, h2]]
      go_enter Tryd.func39, Tryd.ntmps39
      go_wp2
      go_ret
      exact ⟨rfl, rfl⟩
    · rw [show lowB r = false by simp [lowB, h2]]
      go_enter Tryd.func39, Tryd.ntmps39
      go_wp2
      go_ret
      exact ⟨rfl, rfl⟩
  · rw [show lowB r = false by simp [lowB, h1]]
    go_enter Tryd.func39, Tryd.ntmps39
    go_wp2
    go_ret
    exact ⟨rfl, rfl⟩

theorem small_any (r : Int) (w : World) : Calls Tryd.prog 38 #[.int .i32 r] w fun e w' => e = .returned (.bool (smallB r)) ∧ w = w' := by
  by_cases h : 97 ≤ r ∧ r ≤ 122
  · obtain ⟨h1, h2⟩ := h
    rw [show smallB r = true by simp [smallB, lowB, h1, h2]]
    go_enter Tryd.func38, Tryd.ntmps38
    go_wp2
    go_ret
    exact ⟨rfl, rfl⟩
  · have hl : lowB r = false := by simp [lowB]; omega
    have e1 : smallB r = (digitB r || decide (r = 45)) := by simp [smallB, hl]
    rw [e1]
    clear e1 hl
    have hcase : r < 97 ∨ (97 ≤ r ∧ 122 < r) := by omega
    clear h
    have hd := Lib.hid (digit_any r)
    cases hb : digitB r
    · have HB := Lib.hid hb
      clear hb
      by_cases h45 : r = 45
      · subst h45
        rw [show (false || decide ((45 : Int) = 45)) = true by decide]
        clear hcase
        go_enter Tryd.func38, Tryd.ntmps38
        go_wp2_with (go_at_call 20; refine (hd.out _).mono ?_; rintro e w' ⟨rfl, rfl⟩; rw [HB.out])
        go_ret
        exact ⟨rfl, rfl⟩
      · rw [show (false || decide (r = 45)) = false by simp [h45]]
        have hq : (r == 45) = false := by simp [h45]
        rcases hcase with h | ⟨h, h'⟩
        · have hx : decide (97 ≤ r) = false := by simp; omega
          go_enter Tryd.func38, Tryd.ntmps38
          go_wp2_with (go_at_call 20; refine (hd.out _).mono ?_; rintro e w' ⟨rfl, rfl⟩; rw [HB.out])
          go_ret
          exact ⟨rfl, rfl⟩
        · have hx : decide (r ≤ 122) = false := by simp; omega
          go_enter Tryd.func38, Tryd.ntmps38
          go_wp2_with (go_at_call 20; refine (hd.out _).mono ?_; rintro e w' ⟨rfl, rfl⟩; rw [HB.out])
          go_ret
          exact ⟨rfl, rfl⟩
    · rw [show (true || decide (r = 45)) = true by simp]
      have HB := Lib.hid hb
      clear hb
      rcases hcase with h | ⟨h, h'⟩
      all_goals
        go_enter Tryd.func38, Tryd.ntmps38
        go_wp2_with (go_at_call 20; refine (hd.out _).mono ?_; rintro e w' ⟨rfl, rfl⟩; rw [HB.out])
        go_ret
        exact ⟨rfl, rfl⟩

theorem mark_any (r : Int) (w : World) : Calls Tryd.prog 70 #[.int .i32 r] w fun e w' => e = .returned (.bool (markB r)) ∧ w = w' := by
  have hd := Lib.hid (small_any r)
  have e1 : markB r = (smallB r || decide (r = 46) || decide (r = 58)) := rfl
  rw [e1]
  clear e1
  cases hb : smallB r
  · have HB := Lib.hid hb
    clear hb
    by_cases h46 : r = 46
    · subst h46
      rw [show (false || decide ((46 : Int) = 46) || decide ((46 : Int) = 58)) = true by decide]
      go_enter Tryd.func70, Tryd.ntmps70
      go_wp2_with (go_at_call 38; refine (hd.out _).mono ?_; rintro e w' ⟨rfl, rfl⟩; rw [HB.out])
      go_ret
      exact ⟨rfl, rfl⟩
    · by_cases h58 : r = 58
      · subst h58
        rw [show (false || decide ((58 : Int) = 46) || decide ((58 : Int) = 58)) = true by decide]
        go_enter Tryd.func70, Tryd.ntmps70
        go_wp2_with (go_at_call 38; refine (hd.out _).mono ?_; rintro e w' ⟨rfl, rfl⟩; rw [HB.out])
        go_ret
        exact ⟨rfl, rfl⟩
      · rw [show (false || decide (r = 46) || decide (r = 58)) = false by simp [h46, h58]]
        have hq : (r == 46) = false := by simp [h46]
        have hq' : (r == 58) = false := by simp [h58]
        go_enter Tryd.func70, Tryd.ntmps70
        go_wp2_with (go_at_call 38; refine (hd.out _).mono ?_; rintro e w' ⟨rfl, rfl⟩; rw [HB.out])
        go_ret
        exact ⟨rfl, rfl⟩
  · rw [show (true || decide (r = 46) || decide (r = 58)) = true by simp]
    have HB := Lib.hid hb
    clear hb
    go_enter Tryd.func70, Tryd.ntmps70
    go_wp2_with (go_at_call 38; refine (hd.out _).mono ?_; rintro e w' ⟨rfl, rfl⟩; rw [HB.out])
    go_ret
    exact ⟨rfl, rfl⟩

/-- A name of 1 to 'most' bytes, all of a kind, the first one of another kind, too. -/
def namedB (most : Nat) (p q : Int → Bool) (l : List UInt8) : Bool := decide (1 ≤ l.length) && decide (l.length ≤ most) && l.all (fun c => p c.toNat) && (match l with | [] => false | c :: _ => q c.toNat)

theorem smallB_high (n : Nat) (h : 128 ≤ n) : smallB n = false := by simp [smallB, lowB, digitB]; omega
theorem markB_high (n : Nat) (h : 128 ≤ n) : markB n = false := by simp [markB, smallB_high n h]; omega

/-- What is known of a beginning. -/
def Begun (p q : Int → Bool) (s : ByteArray) (pos : Nat) : Prop := (∀ j (h : j < s.size), j < pos → p (s[j]'h).toNat = true) ∧ (0 < pos → ∀ h : 0 < s.size, q (s[0]'h).toNat = true)

theorem all_iff (p : Int → Bool) (s : ByteArray) : (L s).all (fun c => p c.toNat) = true ↔ ∀ j (h : j < s.size), p (s[j]'h).toNat = true := by
  rw [List.all_eq_true]
  constructor
  · intro h j hj
    exact h _ (List.mem_of_getElem? (get_L s j hj))
  · intro h c hc
    obtain ⟨j, hj, rfl⟩ := List.mem_iff_getElem.1 hc
    rw [L_len] at hj
    have := h j hj
    simp only [Array.getElem_toList]
    exact this

theorem head_L (s : ByteArray) (h : 0 < s.size) : ∃ l, L s = (s[0]'h) :: l := ⟨_, by simpa using drop_cons s 0 h⟩

theorem namedB_eq (most : Nat) (p q : Int → Bool) (s : ByteArray) (h : 0 < s.size) (hm : s.size ≤ most) : namedB most p q (L s) = ((L s).all (fun c => p c.toNat) && q (s[0]'h).toNat) := by
  obtain ⟨l, hl⟩ := head_L s h
  unfold namedB
  rw [L_len, decide_eq_true (by omega : 1 ≤ s.size), decide_eq_true hm, hl]
  simp

theorem named_end (most : Nat) (p q : Int → Bool) (s : ByteArray) (h : 0 < s.size) (hm : s.size ≤ most) (hb : Begun p q s s.size) : namedB most p q (L s) = true := by
  rw [namedB_eq most p q s h hm, Bool.and_eq_true, all_iff]
  exact ⟨fun j hj => hb.1 j hj hj, hb.2 h h⟩

theorem named_bad (most : Nat) (p q : Int → Bool) (s : ByteArray) (h : 0 < s.size) (hm : s.size ≤ most) (pos : Nat) (hp : pos < s.size) (hb : p (s[pos]'hp).toNat = false) : namedB most p q (L s) = false := by
  rw [namedB_eq most p q s h hm, Bool.and_eq_false_iff]
  left
  rw [Bool.eq_false_iff]
  intro e
  rw [all_iff] at e
  rw [e pos hp] at hb
  cases hb

theorem named_first (most : Nat) (p q : Int → Bool) (s : ByteArray) (h : 0 < s.size) (hm : s.size ≤ most) (hb : q (s[0]'h).toNat = false) : namedB most p q (L s) = false := by
  rw [namedB_eq most p q s h hm, hb, Bool.and_false]

theorem begun_next (p q : Int → Bool) (s : ByteArray) (pos : Nat) (hp : pos < s.size) (hb : Begun p q s pos) (h1 : p (s[pos]'hp).toNat = true) (h2 : pos = 0 → q (s[pos]'hp).toNat = true) : Begun p q s (pos + 1) := by
  refine ⟨fun j hj hlt => ?_, fun _ h0 => ?_⟩
  · by_cases e : j = pos
    · subst e; exact h1
    · exact hb.1 j hj (by omega)
  · by_cases e : pos = 0
    · subst e; exact h2 rfl
    · exact hb.2 (by omega) h0

theorem named_long (most : Nat) (p q : Int → Bool) (l : List UInt8) (h : most < l.length) : namedB most p q l = false := by
  unfold namedB
  rw [decide_eq_false (by omega : ¬ l.length ≤ most)]
  simp
theorem named_none (most : Nat) (p q : Int → Bool) (l : List UInt8) (h : l.length < 1) : namedB most p q l = false := by
  unfold namedB
  rw [decide_eq_false (by omega : ¬ 1 ≤ l.length)]
  simp

/-- One rune more: a letter of ASCII, or one that no kind takes. -/
theorem next_name {P : Program} {w wr : World} {s : ByteArray} {pos B : Nat} (hp : pos < s.size) (hit : wr.heap[B]? = some (.stringIter s pos)) (hbel : Below B w wr) :
    ∃ (r k : Nat) (W1 : World), (∀ ty, (Instr.next (.pointer (some ⟨B, 0, none⟩)) true ty).run P wr = .ok (.tuple #[.bool true, .int .i64 pos, .int .i32 r]) W1) ∧ W1.heap[B]? = some (.stringIter s (pos + k)) ∧ Below B w W1 ∧ r ≤ 2147483647 ∧
      ((r = (s[pos]'hp).toNat ∧ k = 1) ∨ (128 ≤ r ∧ 128 ≤ (s[pos]'hp).toNat)) := by
  refine ⟨(Utf8.decode s pos).1, (Utf8.decode s pos).2, wr.iterAt B s (pos + (Utf8.decode s pos).2), fun ty => Lib.run_next_any_at wr B s pos ty hit hp, Lib.iterAt_heap wr B s pos _ hit, Lib.below_iterAt hbel (Nat.le_refl _) s _, decode_le s pos, ?_⟩
  by_cases hc : (s[pos]'hp).toNat < 128
  · rw [decode_ascii s pos hp hc]
    exact .inl ⟨rfl, rfl⟩
  · exact .inr ⟨(decode_high s pos hp (by omega)).1, by omega⟩

set_option maxRecDepth 100000 in
set_option maxHeartbeats 1000000 in
theorem tenant_named (s : ByteArray) (w : World) (h0 : 0 < s.size) (hm : s.size ≤ 16) :
    Calls Tryd.prog 37 #[.string s, .int .i64 16, .func (.func 38) #[] #[], .func (.func 39) #[] #[]] w fun e w' => e = .returned (.bool (namedB 16 smallB lowB (L s))) ∧ Below w.heap.size w w' := by
  have hl0 : ((s.size : Int) == 0) = false := by rw [beq_eq_false_iff_ne]; omega
  obtain ⟨R, hR⟩ : ∃ R, R = namedB 16 smallB lowB (L s) := ⟨_, rfl⟩
  rw [← hR]
  have HR := Lib.hid hR
  clear hR
  go_enter Tryd.func37, Tryd.ntmps37
  go_wp2
  go_loopw [] (fun wr => ∃ pos : Nat, pos ≤ s.size ∧ wr.heap[w.heap.size]? = some (.stringIter s pos) ∧ Below w.heap.size w wr ∧ Begun smallB lowB s pos) (fun wr => s.size - wr.iterPos w.heap.size)
  case atStart => exact ⟨0, by omega, World.iter_heap w s 0, (Below.refl _ _).alloc (Nat.le_refl _) _, fun j hj h => absurd h (by omega), fun h => absurd h (by omega)⟩
  case round =>
    obtain ⟨pos, hps, hit, hbel, hbeg⟩ := hrel
    have HB := Lib.hid hbeg
    clear hbeg
    have hpos0 := iterPos_of hit
    by_cases hp : pos < s.size
    · obtain ⟨r, k, W1, hnx, hit2, hbel2, hr1, hcase⟩ := next_name (P := Tryd.prog) hp hit hbel
      have HC := Lib.hid hcase
      clear hcase hit hbel
      cases hpr : smallB r
      · have HP := Lib.hid hpr
        clear hpr
        go_wp2_with (go_at_call 38; refine (small_any _ _).mono ?_; rintro e w' ⟨rfl, rfl⟩; rw [HP.out])
        go_ret
        refine ⟨?_, hbel2⟩
        have : R = false := by
          rw [HR.out]
          rcases HC.out with ⟨h1, _⟩ | ⟨_, h2⟩
          · exact named_bad 16 smallB lowB s h0 hm pos hp (by rw [← h1]; exact HP.out)
          · exact named_bad 16 smallB lowB s h0 hm pos hp (smallB_high _ h2)
        rw [this]; rfl
      · have HP := Lib.hid hpr
        clear hpr
        have hasc : r = (s[pos]'hp).toNat ∧ k = 1 := by
          rcases HC.out with h | ⟨h1, _⟩
          · exact h
          · have := smallB_high _ h1
            rw [HP.out] at this
            cases this
        obtain ⟨hrc, rfl⟩ := hasc
        have HRC := Lib.hid hrc
        clear hrc
        by_cases hz : pos = 0
        · have HZ := Lib.hid hz
          have hzb : ((pos : Int) == 0) = true := by simp [hz]
          clear hz
          cases hqr : lowB r
          · have HQ := Lib.hid hqr
            clear hqr
            go_wp2_with (first | (go_at_call 38; refine (small_any _ _).mono ?_; rintro e w' ⟨rfl, rfl⟩; rw [HP.out]) | (go_at_call 39; refine (low_any _ _).mono ?_; rintro e w' ⟨rfl, rfl⟩; rw [HQ.out]))
            go_ret
            refine ⟨?_, hbel2⟩
            have : R = false := by
              rw [HR.out]
              have hz := HZ.out
              subst hz
              exact named_first 16 smallB lowB s h0 hm (by rw [← HRC.out]; exact HQ.out)
            rw [this]; rfl
          · have HQ := Lib.hid hqr
            clear hqr
            go_wp2_with (first | (go_at_call 38; refine (small_any _ _).mono ?_; rintro e w' ⟨rfl, rfl⟩; rw [HP.out]) | (go_at_call 39; refine (low_any _ _).mono ?_; rintro e w' ⟨rfl, rfl⟩; rw [HQ.out]))
            go_roundw
            case rel => exact ⟨pos + 1, by omega, hit2, hbel2, begun_next smallB lowB s pos hp HB.out (by rw [← HRC.out]; exact HP.out) (fun _ => by rw [← HRC.out]; exact HQ.out)⟩
            case measure => rw [iterPos_of hit2, hpos0]; omega
        · have hzb : ((pos : Int) == 0) = false := by simp [hz]
          go_wp2_with (first | (go_at_call 38; refine (small_any _ _).mono ?_; rintro e w' ⟨rfl, rfl⟩; rw [HP.out]))
          go_roundw
          case rel => exact ⟨pos + 1, by omega, hit2, hbel2, begun_next smallB lowB s pos hp HB.out (by rw [← HRC.out]; exact HP.out) (fun h => absurd h hz)⟩
          case measure => rw [iterPos_of hit2, hpos0]; omega
    · have hnx : ∀ ty, (Instr.next (.pointer (some ⟨w.heap.size, 0, none⟩)) true ty).run Tryd.prog wr = _ := fun ty => Lib.run_next_end_at wr w.heap.size s pos ty hit hp
      have he : R = true := by
        rw [HR.out]
        have hb := HB.out
        rw [show pos = s.size by omega] at hb
        exact named_end 16 smallB lowB s h0 hm hb
      have HE := Lib.hid he
      clear he
      go_wp2_with fail
      go_ret
      exact ⟨by rw [HE.out]; rfl, hbel⟩

theorem tenant_any (s : ByteArray) (w : World) (hs : s.size ≤ 1000000000000) : Calls Tryd.prog 19 #[.string s] w fun e w' => e = .returned (.bool (namedB 16 smallB lowB (L s))) ∧ Below w.heap.size w w' := by
  have hlen := L_len s
  by_cases h0 : 0 < s.size
  · by_cases hm : s.size ≤ 16
    · have hn := Lib.hid (tenant_named s w h0 hm)
      generalize namedB 16 smallB lowB (L s) = R at *
      go_enter Tryd.func19, Tryd.ntmps19
      go_wp2_with (go_at_call 37; refine hn.out.mono ?_; rintro e w' ⟨rfl, hb⟩)
      go_ret
      exact ⟨rfl, by assumption⟩
    · rw [named_long 16 smallB lowB (L s) (by omega)]
      have hl0 : ((s.size : Int) == 0) = false := by rw [beq_eq_false_iff_ne]; omega
      clear hlen
      go_enter Tryd.func19, Tryd.ntmps19
      go_wp2
      go_ret
      exact ⟨rfl, Below.refl _ _⟩
  · rw [named_none 16 smallB lowB (L s) (by omega)]
    have hl0 : ((s.size : Int) == 0) = true := by rw [beq_iff_eq]; omega
    clear hlen
    go_enter Tryd.func19, Tryd.ntmps19
    go_wp2
    go_ret
    exact ⟨rfl, Below.refl _ _⟩

set_option maxRecDepth 100000 in
set_option maxHeartbeats 1000000 in
theorem target_named (s : ByteArray) (w : World) (h0 : 0 < s.size) (hm : s.size ≤ 24) :
    Calls Tryd.prog 37 #[.string s, .int .i64 24, .func (.func 70) #[] #[], .func (.func 38) #[] #[]] w fun e w' => e = .returned (.bool (namedB 24 markB smallB (L s))) ∧ Below w.heap.size w w' := by
  have hl0 : ((s.size : Int) == 0) = false := by rw [beq_eq_false_iff_ne]; omega
  obtain ⟨R, hR⟩ : ∃ R, R = namedB 24 markB smallB (L s) := ⟨_, rfl⟩
  rw [← hR]
  have HR := Lib.hid hR
  clear hR
  go_enter Tryd.func37, Tryd.ntmps37
  go_wp2
  go_loopw [] (fun wr => ∃ pos : Nat, pos ≤ s.size ∧ wr.heap[w.heap.size]? = some (.stringIter s pos) ∧ Below w.heap.size w wr ∧ Begun markB smallB s pos) (fun wr => s.size - wr.iterPos w.heap.size)
  case atStart => exact ⟨0, by omega, World.iter_heap w s 0, (Below.refl _ _).alloc (Nat.le_refl _) _, fun j hj h => absurd h (by omega), fun h => absurd h (by omega)⟩
  case round =>
    obtain ⟨pos, hps, hit, hbel, hbeg⟩ := hrel
    have HB := Lib.hid hbeg
    clear hbeg
    have hpos0 := iterPos_of hit
    by_cases hp : pos < s.size
    · obtain ⟨r, k, W1, hnx, hit2, hbel2, hr1, hcase⟩ := next_name (P := Tryd.prog) hp hit hbel
      have HC := Lib.hid hcase
      clear hcase hit hbel
      cases hpr : markB r
      · have HP := Lib.hid hpr
        clear hpr
        go_wp2_with (go_at_call 70; refine (mark_any _ _).mono ?_; rintro e w' ⟨rfl, rfl⟩; rw [HP.out])
        go_ret
        refine ⟨?_, hbel2⟩
        have : R = false := by
          rw [HR.out]
          rcases HC.out with ⟨h1, _⟩ | ⟨_, h2⟩
          · exact named_bad 24 markB smallB s h0 hm pos hp (by rw [← h1]; exact HP.out)
          · exact named_bad 24 markB smallB s h0 hm pos hp (markB_high _ h2)
        rw [this]; rfl
      · have HP := Lib.hid hpr
        clear hpr
        have hasc : r = (s[pos]'hp).toNat ∧ k = 1 := by
          rcases HC.out with h | ⟨h1, _⟩
          · exact h
          · have := markB_high _ h1
            rw [HP.out] at this
            cases this
        obtain ⟨hrc, rfl⟩ := hasc
        have HRC := Lib.hid hrc
        clear hrc
        by_cases hz : pos = 0
        · have HZ := Lib.hid hz
          have hzb : ((pos : Int) == 0) = true := by simp [hz]
          clear hz
          cases hqr : smallB r
          · have HQ := Lib.hid hqr
            clear hqr
            go_wp2_with (first | (go_at_call 70; refine (mark_any _ _).mono ?_; rintro e w' ⟨rfl, rfl⟩; rw [HP.out]) | (go_at_call 38; refine (small_any _ _).mono ?_; rintro e w' ⟨rfl, rfl⟩; rw [HQ.out]))
            go_ret
            refine ⟨?_, hbel2⟩
            have : R = false := by
              rw [HR.out]
              have hz := HZ.out
              subst hz
              exact named_first 24 markB smallB s h0 hm (by rw [← HRC.out]; exact HQ.out)
            rw [this]; rfl
          · have HQ := Lib.hid hqr
            clear hqr
            go_wp2_with (first | (go_at_call 70; refine (mark_any _ _).mono ?_; rintro e w' ⟨rfl, rfl⟩; rw [HP.out]) | (go_at_call 38; refine (small_any _ _).mono ?_; rintro e w' ⟨rfl, rfl⟩; rw [HQ.out]))
            go_roundw
            case rel => exact ⟨pos + 1, by omega, hit2, hbel2, begun_next markB smallB s pos hp HB.out (by rw [← HRC.out]; exact HP.out) (fun _ => by rw [← HRC.out]; exact HQ.out)⟩
            case measure => rw [iterPos_of hit2, hpos0]; omega
        · have hzb : ((pos : Int) == 0) = false := by simp [hz]
          go_wp2_with (first | (go_at_call 70; refine (mark_any _ _).mono ?_; rintro e w' ⟨rfl, rfl⟩; rw [HP.out]))
          go_roundw
          case rel => exact ⟨pos + 1, by omega, hit2, hbel2, begun_next markB smallB s pos hp HB.out (by rw [← HRC.out]; exact HP.out) (fun h => absurd h hz)⟩
          case measure => rw [iterPos_of hit2, hpos0]; omega
    · have hnx : ∀ ty, (Instr.next (.pointer (some ⟨w.heap.size, 0, none⟩)) true ty).run Tryd.prog wr = _ := fun ty => Lib.run_next_end_at wr w.heap.size s pos ty hit hp
      have he : R = true := by
        rw [HR.out]
        have hb := HB.out
        rw [show pos = s.size by omega] at hb
        exact named_end 24 markB smallB s h0 hm hb
      have HE := Lib.hid he
      clear he
      go_wp2_with fail
      go_ret
      exact ⟨by rw [HE.out]; rfl, hbel⟩

theorem target_any (s : ByteArray) (w : World) (hs : s.size ≤ 1000000000000) : Calls Tryd.prog 61 #[.string s] w fun e w' => e = .returned (.bool (namedB 24 markB smallB (L s))) ∧ Below w.heap.size w w' := by
  have hlen := L_len s
  by_cases h0 : 0 < s.size
  · by_cases hm : s.size ≤ 24
    · have hn := Lib.hid (target_named s w h0 hm)
      generalize namedB 24 markB smallB (L s) = R at *
      go_enter Tryd.func61, Tryd.ntmps61
      go_wp2_with (go_at_call 37; refine hn.out.mono ?_; rintro e w' ⟨rfl, hb⟩)
      go_ret
      exact ⟨rfl, by assumption⟩
    · rw [named_long 24 markB smallB (L s) (by omega)]
      have hl0 : ((s.size : Int) == 0) = false := by rw [beq_eq_false_iff_ne]; omega
      clear hlen
      go_enter Tryd.func61, Tryd.ntmps61
      go_wp2
      go_ret
      exact ⟨rfl, Below.refl _ _⟩
  · rw [named_none 24 markB smallB (L s) (by omega)]
    have hl0 : ((s.size : Int) == 0) = true := by rw [beq_iff_eq]; omega
    clear hlen
    go_enter Tryd.func61, Tryd.ntmps61
    go_wp2
    go_ret
    exact ⟨rfl, Below.refl _ _⟩
end Go.Proofs.YtinabbdecmjcpaaDoor.Named
