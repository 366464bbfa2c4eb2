/- Contracts of the references' Same of layer 39, Tenant of layer 7, Sign and Check of layer 8. The contract of the reference's Check of layer 8, of a pattern whose signs are known. The contract of the reference's line of layer 39: the line of an event, and the event with just what the line says. -/
import Derived.Deep.RegionHeld3
import Derived.Test.YtinabbdecmjcpaaGreatDoorGEvRef
import Derived.Test.YtinabbdecmjcpaaGreatDoorG05
namespace Go.Proofs.YtinabbdecmjcpaaGreatDoor.Ev
open Go.RowKit Go.Proofs.YtinabbdecmjcpaaGreatDoor Go.Proofs.YtinabbdecmjcpaaGreatDoor.Plain Go.Proofs.YtinabbdecmjcpaaGreatDoor.Words Go.Proofs.YtinabbdecmjcpaaGreatDoor.Named Go.Proofs.YtinabbdecmjcpaaGreatDoor.Hex Go.Proofs.YtinabbdecmjcpaaGreatDoor.Number
open Go.Lib (decDigits)
set_option linter.unusedVariables false

set_option maxRecDepth 100000 in
set_option maxHeartbeats 4000000 in
theorem same39 (k se st : Int) (tn : ByteArray) (n m b : Int) (v : Value) (d : List UInt8) (k' se' st' : Int) (tn' : ByteArray) (n' m' b' : Int) (v' : Value) (d' : List UInt8) (w : World) (hd : d.length ≤ 1000000000000) (hd' : d'.length ≤ 1000000000000) (hv : BRow w v d) (hv' : BRow w v' d') :
    Calls Tryz.prog 30 #[.agg #[.int .i64 k, .int .i64 se, .int .i64 st, .string tn, .int .u64 n, .int .i64 m, .int .u64 b, v], .agg #[.int .i64 k', .int .i64 se', .int .i64 st', .string tn', .int .u64 n', .int .i64 m', .int .u64 b', v']] w
      fun e w' => e = .returned (.bool ((k == k') && (se == se') && (st == st') && (tn.toList == tn'.toList) && (n == n') && (m == m') && (b == b') && decide (d = d'))) ∧ Below w.heap.size w w' := by
  have bb : ∀ o o', Below w.heap.size w ((w.alloc o).alloc o') := fun o o' => ((Below.refl _ _).alloc (Nat.le_refl _) _).alloc (by simp) _
  have HS := Lib.hid (same_any d d' v v' _ hd hd' (brow_below (bb (.cells #[.int .i64 k, .int .i64 se, .int .i64 st, .string tn, .int .u64 n, .int .i64 m, .int .u64 b, v] 44) (.cells #[.int .i64 k', .int .i64 se', .int .i64 st', .string tn', .int .u64 n', .int .i64 m', .int .u64 b', v'] 44)) hv) (brow_below (bb _ _) hv'))
  obtain ⟨a1, c1, rfl⟩ := brow_form hv
  obtain ⟨a2, c2, rfl⟩ := brow_form hv'
  have B := Lib.hid (fun o o' => bb o o')
  clear bb hv hv' hd hd'
  cases h0 : (k == k')
  · simp only [Bool.false_and]
    go_enter Tryz.func30, Tryz.ntmps30
    go_wp2
    go_ret
    exact ⟨rfl, B.out _ _⟩
  cases h1 : (se == se')
  · simp only [Bool.and_false, Bool.false_and]
    go_enter Tryz.func30, Tryz.ntmps30
    go_wp2
    go_ret
    exact ⟨rfl, B.out _ _⟩
  cases h2 : (st == st')
  · simp only [Bool.true_and, Bool.and_false, Bool.false_and]
    go_enter Tryz.func30, Tryz.ntmps30
    go_wp2
    go_ret
    exact ⟨rfl, B.out _ _⟩
  cases h3 : (tn.toList == tn'.toList)
  · simp only [Bool.true_and, Bool.and_false, Bool.false_and]
    go_enter Tryz.func30, Tryz.ntmps30
    go_wp2
    go_ret
    exact ⟨rfl, B.out _ _⟩
  cases h4 : (n == n')
  · simp only [Bool.true_and, Bool.and_false, Bool.false_and]
    go_enter Tryz.func30, Tryz.ntmps30
    go_wp2
    go_ret
    exact ⟨rfl, B.out _ _⟩
  cases h5 : (m == m')
  · simp only [Bool.true_and, Bool.and_false, Bool.false_and]
    go_enter Tryz.func30, Tryz.ntmps30
    go_wp2
    go_ret
    exact ⟨rfl, B.out _ _⟩
  cases h6 : (b == b')
  · simp only [Bool.true_and, Bool.and_false, Bool.false_and]
    go_enter Tryz.func30, Tryz.ntmps30
    go_wp2
    go_ret
    exact ⟨rfl, B.out _ _⟩
  simp only [Bool.true_and]
  go_enter Tryz.func30, Tryz.ntmps30
  go_wp2_with (go_at_call 29; refine HS.out.mono ?_; rintro e w1 ⟨rfl, hb1⟩)
  go_ret
  exact ⟨rfl, (B.out _ _).trans (hb1.mono (B.out _ _).size)⟩

/-! ### Tenant -/
def lows : List UInt8 := [97, 98, 99, 100, 101, 102, 103, 104, 105, 106, 107, 108, 109, 110, 111, 112, 113, 114, 115, 116, 117, 118, 119, 120, 121, 122, 48, 49, 50, 51, 52, 53, 54, 55, 56, 57, 45]
theorem lows_fin : ∀ n : Fin 256, inB lows n.val = smallB (n.val : Int) := by decide +kernel
theorem only_lows (l : List UInt8) : onlyB l lows = l.all fun c => smallB c.toNat := by
  unfold onlyB
  congr 1
  funext c
  exact lows_fin ⟨c.toNat, c.toNat_lt⟩
set_option maxRecDepth 100000 in
theorem reftenant_any (s : ByteArray) (w : World) (hs : s.size ≤ 1000000000000) : Calls Tryz.prog 59 #[.string s] w fun e w' => e = .returned (.bool (namedB 16 smallB lowB (L s))) ∧ w = w' := by
  have hlen := L_len s
  by_cases h0 : 0 < s.size
  · by_cases hm : s.size ≤ 16
    · rw [namedB_eq 16 smallB lowB s h0 hm, ← only_lows]
      have HO : Hid (Calls Tryz.prog 82 #[.string s, .string ⟨#[97, 98, 99, 100, 101, 102, 103, 104, 105, 106, 107, 108, 109, 110, 111, 112, 113, 114, 115, 116, 117, 118, 119, 120, 121, 122, 48, 49, 50, 51, 52, 53, 54, 55, 56, 57, 45]⟩] w fun e w' => e = .returned (.bool (onlyB (L s) lows)) ∧ w = w') := Lib.hid (only_any s ⟨#[97, 98, 99, 100, 101, 102, 103, 104, 105, 106, 107, 108, 109, 110, 111, 112, 113, 114, 115, 116, 117, 118, 119, 120, 121, 122, 48, 49, 50, 51, 52, 53, 54, 55, 56, 57, 45]⟩ w hs (by decide))
      clear hlen
      cases hR : onlyB (L s) lows
      · rw [hR] at HO
        rw [Bool.false_and]
        clear hR
        go_enter Tryz.func59, Tryz.ntmps59
        go_wp2_with (go_at_call 82; refine HO.out.mono ?_; rintro e w' ⟨rfl, rfl⟩)
        go_ret
        exact ⟨rfl, rfl⟩
      · rw [hR] at HO
        rw [Bool.true_and]
        clear hR
        unfold lowB
        by_cases c1 : 97 ≤ (s[0]'h0).toNat
        · have e1 : decide ((97 : Int) ≤ ((s[0]'h0).toNat : Int)) = true := by simp; omega
          rw [e1, Bool.true_and]
          by_cases c2 : (s[0]'h0).toNat ≤ 122
          · have e2 : decide (((s[0]'h0).toNat : Int) ≤ 122) = true := by simp; omega
            rw [e2]
            clear c1 c2
            go_enter Tryz.func59, Tryz.ntmps59
            go_wp2_with (go_at_call 82; refine HO.out.mono ?_; rintro e w' ⟨rfl, rfl⟩)
            go_ret
            exact ⟨rfl, rfl⟩
          · have e2 : decide (((s[0]'h0).toNat : Int) ≤ 122) = false := by simp; omega
            rw [e2]
            clear c1 c2
            go_enter Tryz.func59, Tryz.ntmps59
            go_wp2_with (go_at_call 82; refine HO.out.mono ?_; rintro e w' ⟨rfl, rfl⟩)
            go_ret
            exact ⟨rfl, rfl⟩
        · have e1 : decide ((97 : Int) ≤ ((s[0]'h0).toNat : Int)) = false := by simp; omega
          rw [e1, Bool.false_and]
          clear c1
          go_enter Tryz.func59, Tryz.ntmps59
          go_wp2_with (go_at_call 82; refine HO.out.mono ?_; rintro e w' ⟨rfl, rfl⟩)
          go_ret
          exact ⟨rfl, rfl⟩
    · rw [named_long 16 smallB lowB (L s) (by omega)]
      clear hlen
      go_enter Tryz.func59, Tryz.ntmps59
      go_wp2
      go_ret
      exact ⟨rfl, rfl⟩
  · rw [named_none 16 smallB lowB (L s) (by omega)]
    clear hlen
    go_enter Tryz.func59, Tryz.ntmps59
    go_wp2
    go_ret
    exact ⟨rfl, rfl⟩

/-! ### Target -/
def marks : List UInt8 := [97, 98, 99, 100, 101, 102, 103, 104, 105, 106, 107, 108, 109, 110, 111, 112, 113, 114, 115, 116, 117, 118, 119, 120, 121, 122, 48, 49, 50, 51, 52, 53, 54, 55, 56, 57, 45, 46, 58]
theorem marks_fin : ∀ n : Fin 256, inB marks n.val = markB (n.val : Int) := by decide +kernel
theorem marks_in (c : UInt8) : inB marks c.toNat = markB c.toNat := marks_fin ⟨c.toNat, c.toNat_lt⟩
theorem small_fin : ∀ n : Fin 256, (markB (n.val : Int) && (n.val != 46) && (n.val != 58)) = smallB (n.val : Int) := by decide +kernel
theorem small_of (c : UInt8) : (markB c.toNat && (c.toNat != 46) && (c.toNat != 58)) = smallB c.toNat := small_fin ⟨c.toNat, c.toNat_lt⟩
theorem only_marks (l : List UInt8) : onlyB l marks = l.all fun c => markB c.toNat := by
  unfold onlyB
  congr 1
  funext c
  exact marks_in c

theorem reftarget_any (s : ByteArray) (w : World) (hs : s.size ≤ 1000000000000) : Calls Tryz.prog 84 #[.string s] w fun e w' => e = .returned (.bool (namedB 24 markB smallB (L s))) ∧ w = w' := by
  have hlen := L_len s
  by_cases h0 : 0 < s.size
  · by_cases hm : s.size ≤ 24
    · rw [namedB_eq 24 markB smallB s h0 hm, ← only_marks, ← small_of]
      have HO := Lib.hid (only_any s ⟨#[97, 98, 99, 100, 101, 102, 103, 104, 105, 106, 107, 108, 109, 110, 111, 112, 113, 114, 115, 116, 117, 118, 119, 120, 121, 122, 48, 49, 50, 51, 52, 53, 54, 55, 56, 57, 45, 46, 58]⟩ w hs (by decide))
      have HO' : Hid (Calls Tryz.prog 82 #[.string s, .string ⟨#[97, 98, 99, 100, 101, 102, 103, 104, 105, 106, 107, 108, 109, 110, 111, 112, 113, 114, 115, 116, 117, 118, 119, 120, 121, 122, 48, 49, 50, 51, 52, 53, 54, 55, 56, 57, 45, 46, 58]⟩] w fun e w' => e = .returned (.bool (onlyB (L s) marks)) ∧ w = w') := HO
      have hml : onlyB (L s) marks = true → markB (s[0]'h0).toNat = true := by
        rw [only_marks, all_iff]
        exact fun h => h 0 h0
      clear HO hlen
      cases hR : onlyB (L s) marks
      · rw [hR] at HO'
        rw [Bool.false_and]
        clear hml hR
        go_enter Tryz.func84, Tryz.ntmps84
        go_wp2_with (go_at_call 82; refine HO'.out.mono ?_; rintro e w' ⟨rfl, rfl⟩)
        go_ret
        exact ⟨rfl, rfl⟩
      · rw [hR] at HO'
        rw [hml hR, Bool.true_and, Bool.true_and]
        clear hml hR
        by_cases c1 : (s[0]'h0).toNat = 46
        · have e1 : (((s[0]'h0).toNat : Int) != 46) = false := by rw [c1]; rfl
          rw [show ((s[0]'h0).toNat != 46) = false by rw [c1]; rfl, Bool.false_and]
          clear c1
          go_enter Tryz.func84, Tryz.ntmps84
          go_wp2_with (go_at_call 82; refine HO'.out.mono ?_; rintro e w' ⟨rfl, rfl⟩)
          go_ret
          exact ⟨rfl, rfl⟩
        · have e1 : (((s[0]'h0).toNat : Int) != 46) = true := by rw [bne_iff_ne]; omega
          rw [show ((s[0]'h0).toNat != 46) = true by rw [bne_iff_ne]; exact c1, Bool.true_and]
          clear c1
          by_cases c2 : (s[0]'h0).toNat = 58
          · have e2 : (((s[0]'h0).toNat : Int) != 58) = false := by rw [c2]; rfl
            rw [show ((s[0]'h0).toNat != 58) = false by rw [c2]; rfl]
            clear c2
            go_enter Tryz.func84, Tryz.ntmps84
            go_wp2_with (go_at_call 82; refine HO'.out.mono ?_; rintro e w' ⟨rfl, rfl⟩)
            go_ret
            exact ⟨rfl, rfl⟩
          · have e2 : (((s[0]'h0).toNat : Int) != 58) = true := by rw [bne_iff_ne]; omega
            rw [show ((s[0]'h0).toNat != 58) = true by rw [bne_iff_ne]; exact c2]
            clear c2
            go_enter Tryz.func84, Tryz.ntmps84
            go_wp2_with (go_at_call 82; refine HO'.out.mono ?_; rintro e w' ⟨rfl, rfl⟩)
            go_ret
            exact ⟨rfl, rfl⟩
    · rw [named_long 24 markB smallB (L s) (by omega)]
      clear hlen
      go_enter Tryz.func84, Tryz.ntmps84
      go_wp2
      go_ret
      exact ⟨rfl, rfl⟩
  · rw [named_none 24 markB smallB (L s) (by omega)]
    clear hlen
    go_enter Tryz.func84, Tryz.ntmps84
    go_wp2
    go_ret
    exact ⟨rfl, rfl⟩


/-! ### Sign -/
set_option maxRecDepth 100000 in
set_option maxHeartbeats 1000000 in
theorem sign08 (c : UInt8) (s : ByteArray) (w : World) (hs : s.size ≤ 1000000000000) : Calls Tryz.prog 63 #[.int .u8 (c.toNat : Int), .string s] w fun e w' => e = .returned (.int .i64 (signErr c (L s) : Nat)) ∧ w = w' := by
  have hN := Lib.hid (refnumber_any s w hs)
  by_cases c1 : c = 116
  · subst c1
    have HT := Lib.hid (reftenant_any s w hs)
    cases hb : namedB 16 smallB lowB (L s)
    all_goals
      have e : signErr 116 (L s) = (if namedB 16 smallB lowB (L s) = true then 0 else 2) := by unfold signErr readF; rw [if_pos rfl]; split <;> rfl
      rw [hb] at HT e
      rw [e]
      clear e hb
      generalize numOf (L s) = r at hN
      show Calls Tryz.prog 63 #[.int .u8 116, .string s] w _
      go_enter Tryz.func63, Tryz.ntmps63
      go_wp2_with (first | (go_at_call 83; refine hN.out.mono ?_; rintro e w' ⟨rfl, rfl⟩) | (go_at_call 59; refine HT.out.mono ?_; rintro e w' ⟨rfl, rfl⟩))
      go_ret
      exact ⟨rfl, rfl⟩
  by_cases c2 : c = 104
  · subst c2
    have HT := Lib.hid (reftarget_any s w hs)
    cases hb : namedB 24 markB smallB (L s)
    all_goals
      have e : signErr 104 (L s) = (if namedB 24 markB smallB (L s) = true then 0 else 2) := by unfold signErr readF; rw [if_neg (by decide), if_pos rfl]; split <;> rfl
      rw [hb] at HT e
      rw [e]
      clear e hb c1
      generalize numOf (L s) = r at hN
      show Calls Tryz.prog 63 #[.int .u8 104, .string s] w _
      go_enter Tryz.func63, Tryz.ntmps63
      go_wp2_with (first | (go_at_call 83; refine hN.out.mono ?_; rintro e w' ⟨rfl, rfl⟩) | (go_at_call 84; refine HT.out.mono ?_; rintro e w' ⟨rfl, rfl⟩))
      go_ret
      exact ⟨rfl, rfl⟩
  by_cases c3 : c = 110
  · subst c3
    have e : signErr 110 (L s) = (numOf (L s)).2 := by unfold signErr; rw [err_n]
    rw [e]
    clear e c1 c2
    generalize numOf (L s) = r at hN ⊢
    show Calls Tryz.prog 63 #[.int .u8 110, .string s] w _
    go_enter Tryz.func63, Tryz.ntmps63
    go_wp2_with (go_at_call 83; refine hN.out.mono ?_; rintro e w' ⟨rfl, rfl⟩)
    go_ret
    exact ⟨rfl, rfl⟩
  by_cases c4 : c = 115
  · subst c4
    have e : signErr 115 (L s) = (if (numOf (L s)).2 = 0 ∧ 2147483647 < (numOf (L s)).1 then 6 else (numOf (L s)).2) := by
      unfold signErr readF
      rw [if_neg (by decide), if_neg (by decide), if_neg (by decide), if_neg (by decide), if_pos rfl]
      split <;> rfl
    rw [e]
    clear e c1 c2 c3
    generalize numOf (L s) = r at hN ⊢
    obtain ⟨x, y⟩ := r
    simp only at hN ⊢
    show Calls Tryz.prog 63 #[.int .u8 115, .string s] w _
    by_cases hy : y = 0
    · subst hy
      by_cases hx : 2147483647 < x
      · rw [if_pos ⟨rfl, hx⟩]
        have t1 : decide ((2147483647 : Int) < (x : Int)) = true := by simp; omega
        go_enter Tryz.func63, Tryz.ntmps63
        go_wp2_with (go_at_call 83; refine hN.out.mono ?_; rintro e w' ⟨rfl, rfl⟩)
        go_ret
        exact ⟨rfl, rfl⟩
      · rw [if_neg (fun h => hx h.2)]
        have t1 : decide ((2147483647 : Int) < (x : Int)) = false := by simp; omega
        go_enter Tryz.func63, Tryz.ntmps63
        go_wp2_with (go_at_call 83; refine hN.out.mono ?_; rintro e w' ⟨rfl, rfl⟩)
        go_ret
        exact ⟨rfl, rfl⟩
    · rw [if_neg (fun h => hy h.1)]
      have t1 : ((y : Int) == 0) = false := by rw [beq_eq_false_iff_ne]; omega
      have t2 : (y == 0) = false := by rw [beq_eq_false_iff_ne]; omega
      clear hy
      go_enter Tryz.func63, Tryz.ntmps63
      go_wp2_with (go_at_call 83; refine hN.out.mono ?_; rintro e w' ⟨rfl, rfl⟩)
      go_ret
      exact ⟨rfl, rfl⟩
  by_cases c5 : c = 98
  · subst c5
    have HT := Lib.hid (hexes_any s w hs)
    rw [hexesB_eq] at HT
    have e : signErr 98 (L s) = (if (bytesOf (L s)).isSome = true then 0 else 2) := by
      unfold signErr readF
      rw [if_neg (by decide), if_neg (by decide), if_pos rfl]
      cases bytesOf (L s) <;> rfl
    rw [e]
    clear e c1 c2 c3 c4
    generalize numOf (L s) = r at hN
    generalize (bytesOf (L s)).isSome = b at HT ⊢
    show Calls Tryz.prog 63 #[.int .u8 98, .string s] w _
    cases b
    all_goals
      go_enter Tryz.func63, Tryz.ntmps63
      go_wp2_with (first | (go_at_call 83; refine hN.out.mono ?_; rintro e w' ⟨rfl, rfl⟩) | (go_at_call 85; refine HT.out.mono ?_; rintro e w' ⟨rfl, rfl⟩))
      go_ret
      exact ⟨rfl, rfl⟩
  · have e : signErr c (L s) = 2 := by
      unfold signErr readF
      rw [if_neg c1, if_neg c2, if_neg c5, if_neg c3, if_neg c4]
    rw [e]
    have ne : ∀ d : UInt8, c ≠ d → ((c.toNat : Int) == (d.toNat : Int)) = false := fun d h => by
      rw [beq_eq_false_iff_ne]
      intro x
      exact h (UInt8.toNat_inj.1 (by omega))
    have t1 : ((c.toNat : Int) == 116) = false := ne 116 c1
    have t2 : ((c.toNat : Int) == 104) = false := ne 104 c2
    have t3 : ((c.toNat : Int) == 110) = false := ne 110 c3
    have t4 : ((c.toNat : Int) == 115) = false := ne 115 c4
    have t5 : ((c.toNat : Int) == 98) = false := ne 98 c5
    clear e ne c1 c2 c3 c4 c5
    generalize numOf (L s) = r at hN
    generalize (c.toNat : Int) = x at *
    go_enter Tryz.func63, Tryz.ntmps63
    go_wp2_with (go_at_call 83; refine hN.out.mono ?_; rintro e w' ⟨rfl, rfl⟩)
    go_ret
    exact ⟨rfl, rfl⟩
end Go.Proofs.YtinabbdecmjcpaaGreatDoor.Ev

namespace Go.Proofs.YtinabbdecmjcpaaGreatDoor.Ev
open Go.RowKit Go.Proofs.YtinabbdecmjcpaaGreatDoor Go.Proofs.YtinabbdecmjcpaaGreatDoor.Plain Go.Proofs.YtinabbdecmjcpaaGreatDoor.Words Go.Proofs.YtinabbdecmjcpaaGreatDoor.Named Go.Proofs.YtinabbdecmjcpaaGreatDoor.Hex Go.Proofs.YtinabbdecmjcpaaGreatDoor.Number
set_option linter.unusedVariables false

theorem flip_call {f : FuncId} {args : Array Value} {w : World} {v : Value} (h : Calls Tryz.prog f args w fun e w' => e = .returned v ∧ w = w') : Calls Tryz.prog f args w fun e w' => e = .returned v ∧ w' = w := h.mono fun _ _ ⟨a, b⟩ => ⟨a, b.symm⟩

/-- Which of the five signs it is. -/
theorem known_cases {c : UInt8} (h : known c = true) : c = 116 ∨ c = 104 ∨ c = 110 ∨ c = 98 ∨ c = 115 := by
  unfold known at h
  simp only [Bool.or_eq_true, beq_iff_eq] at h
  rcases h with (((h | h) | h) | h) | h
  · exact .inl h
  · exact .inr (.inl h)
  · exact .inr (.inr (.inl h))
  · exact .inr (.inr (.inr (.inl h)))
  · exact .inr (.inr (.inr (.inr h)))

theorem signs_drop (p : ByteArray) (xs : List (List UInt8)) (k : Nat) (hk : k < p.size) (hx : k < xs.length) :
    signs ((L p).drop k) (xs.drop k) = if signErr (p[k]'hk) xs[k] ≠ 0 then signErr (p[k]'hk) xs[k] else signs ((L p).drop (k + 1)) (xs.drop (k + 1)) := by
  rw [drop_cons p k hk, List.drop_eq_getElem_cons hx]
  rfl

theorem checkOf_some (ws : List (List UInt8)) (w p : List UInt8) : checkOf (some ws) w p = if ws.length ≠ p.length + 1 ∨ ws.head? ≠ some w then 2 else signs p ws.tail := rfl

set_option maxRecDepth 100000 in
set_option maxHeartbeats 2000000 in
theorem check08 (s wd p : ByteArray) (w : World) (hs : s.size ≤ 1000000000000) (hw : wd.size ≤ 1000000) (hp : p.size ≤ 1000000) (hk : ∀ c ∈ L p, known c = true) :
    Calls Tryz.prog 41 #[.string s, .string wd, .string p] w fun e w' => e = .returned (.int .i64 (checkOf (words (L s)) (L wd) (L p) : Nat)) ∧ Below w.heap.size w w' := by
  have h1 := Lib.hid (ref_any s w hs)
  have HK : Hid (∀ j (h : j < p.size), known (p[j]'h) = true) := Lib.hid fun j h => hk _ (List.mem_of_getElem? (get_L p j h))
  have hwlen : ∀ ws, words (L s) = some ws → ∀ x ∈ ws, x.length ≤ s.size := fun ws h x hx => by
    obtain ⟨e, _⟩ := words_back _ _ h
    have := join_len ws x hx
    rw [e, L_len] at this
    exact this
  obtain ⟨R, hR⟩ : ∃ R, R = checkOf (words (L s)) (L wd) (L p) := ⟨_, rfl⟩
  rw [← hR]
  have HR := Lib.hid hR
  have HWL := Lib.hid hwlen
  clear hR hk hwlen
  generalize words (L s) = r at *
  go_enter Tryz.func41, Tryz.ntmps41
  go_wp2_with fail
  refine h1.out.mono ?_
  rintro e w1 ⟨v, bo, rfl, hb1, hc1⟩
  have HC := Lib.hid hc1
  clear hc1 h1
  go_wp2_with fail
  go_loopw [9] (fun i wr => ∃ k : Nat, k ≤ p.size ∧ i = .int .i64 k ∧ w1 = wr) (fun i _ => p.size - (intOf i).toNat)
  case atStart => exact ⟨0, by omega, rfl, rfl⟩
  case round =>
    obtain ⟨k, hkp, rfl, rfl⟩ := hrel
    by_cases hlt : k < p.size
    · have hc := HK.out k hlt
      have hcs : (p[k]'hlt).toNat = 116 ∨ (p[k]'hlt).toNat = 104 ∨ (p[k]'hlt).toNat = 110 ∨ (p[k]'hlt).toNat = 98 ∨ (p[k]'hlt).toNat = 115 := by
        rcases known_cases hc with h | h | h | h | h <;> rw [h]
        · exact .inl rfl
        · exact .inr (.inl rfl)
        · exact .inr (.inr (.inl rfl))
        · exact .inr (.inr (.inr (.inl rfl)))
        · exact .inr (.inr (.inr (.inr rfl)))
      clear hc
      generalize hx : (p[k]'hlt).toNat = x at hcs
      have HX := Lib.hid hx
      have ix : ∀ W, (Instr.index 9 (.string p) (.int .i64 (k : Int))).run Tryz.prog W = .ok (.int .u8 (x : Int)) W := fun W => by
        rw [← HX.out]
        go_simp
      clear hx HX
      rcases hcs with rfl | rfl | rfl | rfl | rfl
      all_goals
        go_wp2_with fail
        go_roundw
        case rel => exact ⟨k + 1, by omega, by go_num, by trivial⟩
        case measure => simp [intOf]; omega
    · have t0 : decide ((k : Int) < (p.size : Int)) = false := by simp; omega
      rcases HC.out with ⟨hr, rfl, rfl⟩ | ⟨ws, hr, rfl, hst⟩
      · have hRv : (R : Int) = 2 := by rw [HR.out, hr]; rfl
        have HRV := Lib.hid hRv
        clear hRv hr
        go_wp2_with fail
        go_ret
        exact ⟨by rw [HRV.out]; rfl, hb1⟩
      · rcases strs_row hst with ⟨rfl, a, cap, rfl⟩ | ⟨g, o, cap, rfl, hg, hcl⟩
        · have hRv : (R : Int) = 2 := by
            rw [HR.out, hr]
            unfold checkOf
            simp
          have HRV := Lib.hid hRv
          have t1 : ((0 : Int) != (p.size : Int) + 1) = true := by rw [bne_iff_ne]; omega
          clear hRv hr hst
          go_wp2_with fail
          go_ret
          exact ⟨by rw [HRV.out]; rfl, hb1⟩
        · by_cases hl : ws.length = p.size + 1
          rotate_left
          · have hRv : (R : Int) = 2 := by
              rw [HR.out, hr, checkOf_some, L_len, if_pos (.inl hl)]
              rfl
            have HRV := Lib.hid hRv
            have t1 : ((ws.length : Int) != (p.size : Int) + 1) = true := by rw [bne_iff_ne]; omega
            clear hRv hr hst hl hcl
            go_wp2_with fail
            go_ret
            exact ⟨by rw [HRV.out]; rfl, hb1⟩
          · have t1 : ((ws.length : Int) != (p.size : Int) + 1) = false := by rw [bne_eq_false_iff_eq]; omega
            have t2 : (0 : Int) < (ws.length : Int) := by omega
            have t3 : 0 < ws.length := by omega
            have HCL : Hid (∀ i x, ws[i]? = some x → w1.cell? ⟨g, o + i, none⟩ = some (.string (S x))) := Lib.hid (fun i x hx => by
              obtain ⟨hi, rfl⟩ := List.getElem?_eq_some_iff.1 hx
              exact hcl i hi)
            clear hcl hst HC
            have HWS := Lib.hid (HWL.out ws hr)
            cases ws with
            | nil => simp at hl
            | cons w0 xs =>
              have c0 : w1.cell? ⟨g, o, none⟩ = some (.string (S w0)) := HCL.out 0 w0 rfl
              have hxl : xs.length = p.size := by simpa using hl
              generalize hM : (w0 :: xs).length = M at *
              have HM := Lib.hid hM
              have hMp : M = p.size + 1 := hl
              clear hM
              by_cases he : w0 = L wd
              rotate_left
              · have hRv : (R : Int) = 2 := by
                  rw [HR.out, hr, checkOf_some, if_pos (.inr (fun h => he (Option.some.inj h)))]
                  rfl
                have t4 : ((S w0).toList != wd.toList) = true := by
                  rw [bne_iff_ne, ByteArray.toList_eq, ByteArray.toList_eq]
                  simpa using he
                have t6 : ((S w0).toList == wd.toList) = false := by
                  rw [beq_eq_false_iff_ne]
                  rw [bne_iff_ne] at t4
                  exact t4
                have t7 : ¬ (S w0).toList = wd.toList := by
                  rw [bne_iff_ne] at t4
                  exact t4
                have HRV := Lib.hid hRv
                generalize S w0 = y at *
                clear hRv hr he hl
                go_wp2_with fail
                go_ret
                exact ⟨by rw [HRV.out]; rfl, hb1⟩
              · have hRv : R = signs (L p) xs := by
                  rw [HR.out, hr, checkOf_some, if_neg]
                  · rfl
                  · rw [L_len]
                    rintro (h | h)
                    · exact h (by rw [HM.out]; exact hMp)
                    · exact h (by rw [he]; rfl)
                have HRV := Lib.hid hRv
                have hy : S w0 = wd := by rw [he, S_L]
                rw [hy] at c0
                have t4 : (wd.toList != wd.toList) = false := by simp
                have hs0 := hb1.size
                clear hRv hr he hl hy
                obtain ⟨wo, rfl⟩ : ∃ wo : World, wo = w1 := ⟨_, rfl⟩
                go_wp2_with fail
                go_loopw [11] (fun i wr => ∃ k : Nat, k ≤ p.size ∧ i = .int .i64 k ∧ Below wo.heap.size wo wr ∧ Hid (R = signs ((L p).drop k) (xs.drop k))) (fun i _ => p.size - (intOf i).toNat)
                case atStart => exact ⟨0, by omega, rfl, Below.refl _ _, Lib.hid (by rw [HRV.out]; rfl)⟩
                case round =>
                  obtain ⟨k, hkp, rfl, hbel, HI⟩ := hrel
                  by_cases hlt : k < p.size
                  · have hxk : k < xs.length := by omega
                    have hcell : wr.cell? ⟨g, o + (k + 1), none⟩ = some (.string (S xs[k])) := by
                      have := HCL.out (k + 1) xs[k] (by simp [hxk])
                      exact (hbel.cell (p := ⟨g, o + (k + 1), none⟩) hg).trans this
                    have hstep := signs_drop p xs k hlt hxk
                    have hxsz : (S xs[k]).size ≤ s.size := by
                      have := HWS.out xs[k] (by simp)
                      show (xs[k]).toArray.size ≤ _
                      simpa using this
                    have hsg : ∀ W, Calls Tryz.prog 63 #[.int .u8 ((p[k]'hlt).toNat : Int), .string (S xs[k])] W fun e w' => e = .returned (.int .i64 (signErr (p[k]'hlt) xs[k] : Nat)) ∧ w' = W := fun W => flip_call (sign08 (p[k]'hlt) (S xs[k]) W (by omega))
                    have HSG := Lib.hid hsg
                    have HST := Lib.hid hstep
                    clear hsg hstep hxsz
                    generalize hx : (p[k]'hlt).toNat = x at *
                    have HX := Lib.hid hx
                    have ix : ∀ W, (Instr.index 9 (.string p) (.int .i64 (k : Int))).run Tryz.prog W = .ok (.int .u8 (x : Int)) W := fun W => by
                      rw [← HX.out]
                      go_simp
                    clear hx HX
                    generalize S xs[k] = y at *
                    generalize signErr (p[k]'hlt) xs[k] = er at *
                    have w1 : IntKind.i64.wrap ((k : Int) + 1) = (k : Int) + 1 := IntWalk.i64_in _ (by omega)
                    have w2 : (0 : Int) ≤ (k : Int) + 1 := by omega
                    have w3 : (k : Int) + 1 < (M : Int) := by omega
                    have w4 : ((k : Int) + 1).toNat = k + 1 := by omega
                    go_wp2_with fail
                    go_quiet ((go_at_call 63; exact Calls.quiet_of_same (HSG.out _)))
                    clear w1 w2 w3 w4 ix
                    by_cases h0 : er = 0
                    · have t5 : ((er : Int) != 0) = false := by rw [bne_eq_false_iff_eq]; omega
                      have hn : R = signs ((L p).drop (k + 1)) (xs.drop (k + 1)) := by rw [HI.out, HST.out, if_neg (by rw [h0]; simp)]
                      have HN := Lib.hid hn
                      clear hn
                      go_wp2_with fail
                      go_roundw
                      case rel => exact ⟨k + 1, by omega, by go_num, below_drewN hbel _, HN⟩
                      case measure => simp [intOf]; omega
                    · have t5 : ((er : Int) != 0) = true := by rw [bne_iff_ne]; omega
                      have hn : R = er := by rw [HI.out, HST.out, if_pos h0]
                      subst hn
                      clear h0
                      go_wp2_with fail
                      go_ret
                      exact ⟨rfl, hb1.trans ((below_drewN hbel _).mono hs0)⟩
                  · have t5 : decide ((k : Int) < (p.size : Int)) = false := by simp; omega
                    have hn : (R : Int) = 0 := by
                      rw [HI.out, List.drop_eq_nil_iff.2 (by rw [L_len]; omega)]
                      rfl
                    have HN := Lib.hid hn
                    clear hn
                    go_wp2_with fail
                    go_ret
                    exact ⟨by rw [HN.out]; rfl, hb1.trans (hbel.mono hs0)⟩
end Go.Proofs.YtinabbdecmjcpaaGreatDoor.Ev

namespace Go.Proofs.YtinabbdecmjcpaaGreatDoor.Ev
open Go.RowKit Go.Proofs.YtinabbdecmjcpaaGreatDoor Go.Proofs.YtinabbdecmjcpaaGreatDoor.Plain Go.Proofs.YtinabbdecmjcpaaGreatDoor.Words Go.Proofs.YtinabbdecmjcpaaGreatDoor.Named Go.Proofs.YtinabbdecmjcpaaGreatDoor.Hex Go.Proofs.YtinabbdecmjcpaaGreatDoor.Number
open Go.Lib (decDigits)
set_option linter.unusedVariables false

/-- Eight cells of a block, free to be written. -/
structure C8 (w : World) (x : Nat) (a0 a1 a2 a3 a4 a5 a6 a7 : Value) : Prop where
  c0 : w.cell? ⟨x, 0, none⟩ = some a0
  c1 : w.cell? ⟨x, 1, none⟩ = some a1
  c2 : w.cell? ⟨x, 2, none⟩ = some a2
  c3 : w.cell? ⟨x, 3, none⟩ = some a3
  c4 : w.cell? ⟨x, 4, none⟩ = some a4
  c5 : w.cell? ⟨x, 5, none⟩ = some a5
  c6 : w.cell? ⟨x, 6, none⟩ = some a6
  c7 : w.cell? ⟨x, 7, none⟩ = some a7
  fz : ∀ o, w.frozen? ⟨x, o, none⟩ = false
theorem C8.lt {w : World} {x : Nat} {a0 a1 a2 a3 a4 a5 a6 a7 : Value} (h : C8 w x a0 a1 a2 a3 a4 a5 a6 a7) : x < w.heap.size := World.block_lt_of_cell? _ _ h.c0
theorem C8.chg {bs : List Nat} {w w' : World} {x : Nat} {a0 a1 a2 a3 a4 a5 a6 a7 : Value} (h : C8 w x a0 a1 a2 a3 a4 a5 a6 a7) (hc : Chg bs w w') (hx : x ∉ bs) : C8 w' x a0 a1 a2 a3 a4 a5 a6 a7 :=
  ⟨(hc.cell (p := ⟨x, 0, none⟩) h.lt hx).trans h.c0, (hc.cell (p := ⟨x, 1, none⟩) h.lt hx).trans h.c1, (hc.cell (p := ⟨x, 2, none⟩) h.lt hx).trans h.c2, (hc.cell (p := ⟨x, 3, none⟩) h.lt hx).trans h.c3, (hc.cell (p := ⟨x, 4, none⟩) h.lt hx).trans h.c4, (hc.cell (p := ⟨x, 5, none⟩) h.lt hx).trans h.c5, (hc.cell (p := ⟨x, 6, none⟩) h.lt hx).trans h.c6, (hc.cell (p := ⟨x, 7, none⟩) h.lt hx).trans h.c7, fun o => (hc.frozen (p := ⟨x, o, none⟩) h.lt hx).trans (h.fz o)⟩
theorem C8.below {w w' : World} {x : Nat} {a0 a1 a2 a3 a4 a5 a6 a7 : Value} (h : C8 w x a0 a1 a2 a3 a4 a5 a6 a7) (hb : Below w.heap.size w w') : C8 w' x a0 a1 a2 a3 a4 a5 a6 a7 := h.chg (bs := []) (Chg.of_below hb) (by simp)
theorem C8.new (w : World) (a0 a1 a2 a3 a4 a5 a6 a7 : Value) (t : TypeId) : C8 (w.alloc (.cells #[a0, a1, a2, a3, a4, a5, a6, a7] t)) w.heap.size a0 a1 a2 a3 a4 a5 a6 a7 :=
  ⟨World.cell?_alloc_at _ _ _ _ rfl, World.cell?_alloc_at _ _ _ _ rfl, World.cell?_alloc_at _ _ _ _ rfl, World.cell?_alloc_at _ _ _ _ rfl, World.cell?_alloc_at _ _ _ _ rfl, World.cell?_alloc_at _ _ _ _ rfl, World.cell?_alloc_at _ _ _ _ rfl, World.cell?_alloc_at _ _ _ _ rfl, fun o => World.frozen?_alloc_at _ _ _ _ rfl⟩

theorem set_off8 (W : World) (b i j : Nat) (v : Value) (h : i ≠ j) : (W.setCell ⟨b, i, none⟩ v).cell? ⟨b, j, none⟩ = W.cell? ⟨b, j, none⟩ := World.cell?_setCell_other _ _ _ _ (fun e => h (congrArg Addr.off e))
/-- A block of eight cells, written over. -/
theorem put8 {w : World} {x : Nat} {a0 a1 a2 a3 a4 a5 a6 a7 : Value} (h : C8 w x a0 a1 a2 a3 a4 a5 a6 a7) (b0 b1 b2 b3 b4 b5 b6 b7 : Value) :
    C8 ((((((((w.setCell ⟨x, 0, none⟩ b0).setCell ⟨x, 1, none⟩ b1).setCell ⟨x, 2, none⟩ b2).setCell ⟨x, 3, none⟩ b3).setCell ⟨x, 4, none⟩ b4).setCell ⟨x, 5, none⟩ b5).setCell ⟨x, 6, none⟩ b6).setCell ⟨x, 7, none⟩ b7) x b0 b1 b2 b3 b4 b5 b6 b7 := by
  have one : ∀ (W : World) (i : Nat) (u v : Value), W.cell? ⟨x, i, none⟩ = some u → (W.setCell ⟨x, i, none⟩ v).cell? ⟨x, i, none⟩ = some v := fun W i u v h => World.cell?_setCell_same _ _ _ h
  refine ⟨?_, ?_, ?_, ?_, ?_, ?_, ?_, ?_, fun o => by simpa using h.fz o⟩
  · rw [set_off8 _ _ _ _ _ (by decide), set_off8 _ _ _ _ _ (by decide), set_off8 _ _ _ _ _ (by decide), set_off8 _ _ _ _ _ (by decide), set_off8 _ _ _ _ _ (by decide), set_off8 _ _ _ _ _ (by decide), set_off8 _ _ _ _ _ (by decide)]
    exact one _ _ _ _ h.c0
  · rw [set_off8 _ _ _ _ _ (by decide), set_off8 _ _ _ _ _ (by decide), set_off8 _ _ _ _ _ (by decide), set_off8 _ _ _ _ _ (by decide), set_off8 _ _ _ _ _ (by decide), set_off8 _ _ _ _ _ (by decide)]
    exact one _ _ a1 _ (by rw [set_off8 _ _ _ _ _ (by decide)]; exact h.c1)
  · rw [set_off8 _ _ _ _ _ (by decide), set_off8 _ _ _ _ _ (by decide), set_off8 _ _ _ _ _ (by decide), set_off8 _ _ _ _ _ (by decide), set_off8 _ _ _ _ _ (by decide)]
    exact one _ _ a2 _ (by rw [set_off8 _ _ _ _ _ (by decide), set_off8 _ _ _ _ _ (by decide)]; exact h.c2)
  · rw [set_off8 _ _ _ _ _ (by decide), set_off8 _ _ _ _ _ (by decide), set_off8 _ _ _ _ _ (by decide), set_off8 _ _ _ _ _ (by decide)]
    exact one _ _ a3 _ (by rw [set_off8 _ _ _ _ _ (by decide), set_off8 _ _ _ _ _ (by decide), set_off8 _ _ _ _ _ (by decide)]; exact h.c3)
  · rw [set_off8 _ _ _ _ _ (by decide), set_off8 _ _ _ _ _ (by decide), set_off8 _ _ _ _ _ (by decide)]
    exact one _ _ a4 _ (by rw [set_off8 _ _ _ _ _ (by decide), set_off8 _ _ _ _ _ (by decide), set_off8 _ _ _ _ _ (by decide), set_off8 _ _ _ _ _ (by decide)]; exact h.c4)
  · rw [set_off8 _ _ _ _ _ (by decide), set_off8 _ _ _ _ _ (by decide)]
    exact one _ _ a5 _ (by rw [set_off8 _ _ _ _ _ (by decide), set_off8 _ _ _ _ _ (by decide), set_off8 _ _ _ _ _ (by decide), set_off8 _ _ _ _ _ (by decide), set_off8 _ _ _ _ _ (by decide)]; exact h.c5)
  · rw [set_off8 _ _ _ _ _ (by decide)]
    exact one _ _ a6 _ (by rw [set_off8 _ _ _ _ _ (by decide), set_off8 _ _ _ _ _ (by decide), set_off8 _ _ _ _ _ (by decide), set_off8 _ _ _ _ _ (by decide), set_off8 _ _ _ _ _ (by decide), set_off8 _ _ _ _ _ (by decide)]; exact h.c6)
  · exact one _ _ a7 _ (by rw [set_off8 _ _ _ _ _ (by decide), set_off8 _ _ _ _ _ (by decide), set_off8 _ _ _ _ _ (by decide), set_off8 _ _ _ _ _ (by decide), set_off8 _ _ _ _ _ (by decide), set_off8 _ _ _ _ _ (by decide), set_off8 _ _ _ _ _ (by decide)]; exact h.c7)
theorem below_put8 {w0 w : World} {x : Nat} (hb : Below w0.heap.size w0 w) (hx : w0.heap.size ≤ x) (b0 b1 b2 b3 b4 b5 b6 b7 : Value) :
    Below w0.heap.size w0 ((((((((w.setCell ⟨x, 0, none⟩ b0).setCell ⟨x, 1, none⟩ b1).setCell ⟨x, 2, none⟩ b2).setCell ⟨x, 3, none⟩ b3).setCell ⟨x, 4, none⟩ b4).setCell ⟨x, 5, none⟩ b5).setCell ⟨x, 6, none⟩ b6).setCell ⟨x, 7, none⟩ b7) :=
  (((((((hb.setCell hx _).setCell hx _).setCell hx _).setCell hx _).setCell hx _).setCell hx _).setCell hx _).setCell hx _

end Go.Proofs.YtinabbdecmjcpaaGreatDoor.Ev
