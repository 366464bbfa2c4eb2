/- Contracts of the references and of the law's awake of layer 26. -/
import Derived.Test.YtinabbdecmjcpaaStreamAt
import Derived.Test.YtinabbdecmjcpaaOnly
import Derived.Lib.SlBytesConst
namespace Go.Proofs.Ytinabbdecmjcpaa.Stream
open Go.RowKit Go.Proofs.Ytinabbdecmjcpaa Go.Proofs.Ytinabbdecmjcpaa.Plain Go.Proofs.Ytinabbdecmjcpaa.Words Go.Proofs.Ytinabbdecmjcpaa.Named Go.Proofs.Ytinabbdecmjcpaa.Hex Go.Proofs.Ytinabbdecmjcpaa.Queue
open Go.Proofs.Ytinabbdecmjcpaa.queueDoes (len_is room_is came_is went_is)
set_option linter.unusedVariables false

set_option maxRecDepth 100000 in
set_option maxHeartbeats 1000000 in
theorem large26_more {w : World} {len : Nat} (g o cap : Nat) (h0 : 0 < len) (hl : len ≤ maxLen) (hst : ∀ i, i < len → ∃ k n dv l, StepAt w g o i k n dv l) : Calls Try.prog 31 #[.slice (some ⟨g, o, none⟩) len cap] w (LargePost (.slice (some ⟨g, o, none⟩) len cap) len w) := by
  unfold maxLen at hl
  have HS := Lib.hid hst
  clear hst
  go_enter Try.func31, Try.ntmps31
  go_wp2
  go_loop [3] (fun i => ∃ k : Nat, k ≤ len ∧ k ≤ 100 ∧ i = .int .i64 k ∧ Hid (∀ j, j < k → ∀ kk n dv l, StepAt w g o j kk n dv l → l.length ≤ 200)) (fun i => 100 - (intOf i).toNat)
  case atStart => exact ⟨0, by omega, by omega, rfl, Lib.hid (fun j hj => absurd hj (by omega))⟩
  case round =>
    obtain ⟨k, hk, hk2, rfl, HK⟩ := hrel
    by_cases hlt : k < len
    · by_cases hlt2 : k < 100
      · obtain ⟨kk, n, dv, l, hs⟩ := HS.out k hlt
        obtain ⟨a, cap', hdv⟩ := crow_form hs.row
        have c2 := hs.c2
        have hll := hs.len
        unfold maxLen at hll
        have HST := Lib.hid hs
        rw [hdv] at c2
        clear hs hdv
        by_cases hbig : 200 < l.length
        · go_wp2_with fail
          go_ret
          exact ⟨true, rfl, rfl, fun h => by cases h⟩
        · go_wp2_with fail
          go_round
          case rel =>
            refine ⟨k + 1, by omega, by omega, by go_num, Lib.hid fun j hj kk' n' dv' l' hs' => ?_⟩
            by_cases e : j = k
            · subst e
              rw [← stepAt_len HST.out hs']
              omega
            · exact HK.out j (by omega) kk' n' dv' l' hs'
          case measure => simp [intOf]; omega
      · have hb : decide ((k : Int) < 100) = false := by simp; omega
        by_cases hbig : 100 < len
        · go_wp2_with fail
          go_ret
          exact ⟨_, rfl, rfl, fun h => by simp at h; omega⟩
        · omega
    · have hb : decide ((k : Int) < (len : Int)) = false := by simp; omega
      obtain rfl : k = len := by omega
      go_wp2_with fail
      go_ret
      refine ⟨_, rfl, rfl, fun h => ⟨by omega, fun g' o' cap' e i hi kk n dv l hs => ?_⟩⟩
      cases e
      exact HK.out i hi kk n dv l hs

theorem large26 {w : World} {v : Value} {len : Nat} (h : Queue.Steps w v len) : Calls Try.prog 31 #[v] w (LargePost v len w) := by
  rcases h with ⟨rfl, a, cap, rfl⟩ | ⟨g, o, cap, rfl, h0, hl, hg, hst⟩
  · go_enter Try.func31, Try.ntmps31
    go_wp2
    go_loop [3] (fun i => i = .int .i64 0) (fun i => 0)
    case atStart => rfl
    case round =>
      obtain rfl := hrel
      go_wp2_with fail
      go_ret
      exact ⟨_, rfl, rfl, fun h => ⟨by omega, fun g o cap' e i hi => absurd hi (by omega)⟩⟩
  · exact large26_more g o cap h0 hl hst


def marks : List UInt8 := [97, 98, 99, 100, 101, 102, 103, 104, 105, 106, 107, 108, 109, 110, 111, 112, 113, 114, 115, 116, 117, 118, 119, 120, 121, 122, 48, 49, 50, 51, 52, 53, 54, 55, 56, 57, 45, 46, 58]
theorem marks_fin : ∀ n : Fin 256, inB marks n.val = markB (n.val : Int) := by decide +kernel
theorem marks_in (c : UInt8) : inB marks c.toNat = markB c.toNat := marks_fin ⟨c.toNat, c.toNat_lt⟩
theorem small_fin : ∀ n : Fin 256, (markB (n.val : Int) && (n.val != 46) && (n.val != 58)) = smallB (n.val : Int) := by decide +kernel
theorem small_of (c : UInt8) : (markB c.toNat && (c.toNat != 46) && (c.toNat != 58)) = smallB c.toNat := small_fin ⟨c.toNat, c.toNat_lt⟩
theorem only_marks (l : List UInt8) : onlyB l marks = l.all fun c => markB c.toNat := by
  unfold onlyB
  congr 1
  funext c
  exact marks_in c

theorem reftarget_any (s : ByteArray) (w : World) (hs : s.size ≤ 1000000000000) : Calls Try.prog 36 #[.string s] w fun e w' => e = .returned (.bool (namedB 24 markB smallB (L s))) ∧ w = w' := by
  have hlen := L_len s
  by_cases h0 : 0 < s.size
  · by_cases hm : s.size ≤ 24
    · rw [namedB_eq 24 markB smallB s h0 hm, ← only_marks, ← small_of]
      have HO := Lib.hid (only_any s ⟨#[97, 98, 99, 100, 101, 102, 103, 104, 105, 106, 107, 108, 109, 110, 111, 112, 113, 114, 115, 116, 117, 118, 119, 120, 121, 122, 48, 49, 50, 51, 52, 53, 54, 55, 56, 57, 45, 46, 58]⟩ w hs (by decide))
      have HO' : Hid (Calls Try.prog 51 #[.string s, .string ⟨#[97, 98, 99, 100, 101, 102, 103, 104, 105, 106, 107, 108, 109, 110, 111, 112, 113, 114, 115, 116, 117, 118, 119, 120, 121, 122, 48, 49, 50, 51, 52, 53, 54, 55, 56, 57, 45, 46, 58]⟩] w fun e w' => e = .returned (.bool (onlyB (L s) marks)) ∧ w = w') := HO
      have hml : onlyB (L s) marks = true → markB (s[0]'h0).toNat = true := by
        rw [only_marks, all_iff]
        exact fun h => h 0 h0
      clear HO hlen
      cases hR : onlyB (L s) marks
      · rw [hR] at HO'
        rw [Bool.false_and]
        clear hml hR
        go_enter Try.func36, Try.ntmps36
        go_wp2_with (go_at_call 51; refine HO'.out.mono ?_; rintro e w' ⟨rfl, rfl⟩)
        go_ret
        exact ⟨rfl, rfl⟩
      · rw [hR] at HO'
        rw [hml hR, Bool.true_and, Bool.true_and]
        clear hml hR
        by_cases c1 : (s[0]'h0).toNat = 46
        · have e1 : (((s[0]'h0).toNat : Int) != 46) = false := by rw [c1]; rfl
          rw [show ((s[0]'h0).toNat != 46) = false by rw [c1]; rfl, Bool.false_and]
          clear c1
          go_enter Try.func36, Try.ntmps36
          go_wp2_with (go_at_call 51; refine HO'.out.mono ?_; rintro e w' ⟨rfl, rfl⟩)
          go_ret
          exact ⟨rfl, rfl⟩
        · have e1 : (((s[0]'h0).toNat : Int) != 46) = true := by rw [bne_iff_ne]; omega
          rw [show ((s[0]'h0).toNat != 46) = true by rw [bne_iff_ne]; exact c1, Bool.true_and]
          clear c1
          by_cases c2 : (s[0]'h0).toNat = 58
          · have e2 : (((s[0]'h0).toNat : Int) != 58) = false := by rw [c2]; rfl
            rw [show ((s[0]'h0).toNat != 58) = false by rw [c2]; rfl]
            clear c2
            go_enter Try.func36, Try.ntmps36
            go_wp2_with (go_at_call 51; refine HO'.out.mono ?_; rintro e w' ⟨rfl, rfl⟩)
            go_ret
            exact ⟨rfl, rfl⟩
          · have e2 : (((s[0]'h0).toNat : Int) != 58) = true := by rw [bne_iff_ne]; omega
            rw [show ((s[0]'h0).toNat != 58) = true by rw [bne_iff_ne]; exact c2]
            clear c2
            go_enter Try.func36, Try.ntmps36
            go_wp2_with (go_at_call 51; refine HO'.out.mono ?_; rintro e w' ⟨rfl, rfl⟩)
            go_ret
            exact ⟨rfl, rfl⟩
    · rw [named_long 24 markB smallB (L s) (by omega)]
      clear hlen
      go_enter Try.func36, Try.ntmps36
      go_wp2
      go_ret
      exact ⟨rfl, rfl⟩
  · rw [named_none 24 markB smallB (L s) (by omega)]
    clear hlen
    go_enter Try.func36, Try.ntmps36
    go_wp2
    go_ret
    exact ⟨rfl, rfl⟩

set_option maxRecDepth 100000 in
theorem awake26 (w : World) : Calls Try.prog 32 #[] w fun e w' => e = .returned (.bool true) ∧ Below w.heap.size w w' := by
  have kc := fun (w : World) (C : Array Value) (n c : Nat) => Lib.run_convert_bytes_const (P := Try.prog) w 22 5 C n c Try.underlying22 Try.underlying5
  go_enter Try.func32, Try.ntmps32
  go_wp2_with fail
  refine (new_ok ⟨#[104, 58, 49]⟩ w (by decide) (by decide)).mono ?_
  rintro e w1 ⟨x, b0, b1, rfl, hs1, hb0, hb1, hx, hbe1⟩
  have HS1 := Lib.hid hs1
  clear hs1
  go_wp2_with fail
  have s1 := hbe1.size
  have hlt := HS1.out.q0.lt
  have ba : Below w1.heap.size w1 (w1.alloc (.cells #[.int .u8 104, .int .u8 101, .int .u8 108, .int .u8 108, .int .u8 111] 5 (5, 6))) := (Below.refl _ _).alloc (Nat.le_refl _) _
  have hrow : BRow (w1.alloc (.cells #[.int .u8 104, .int .u8 101, .int .u8 108, .int .u8 108, .int .u8 111] 5 (5, 6))) (.slice (some ⟨w1.heap.size, 0, none⟩) 5 5) [104, 101, 108, 108, 111] := by
    refine .inr ⟨w1.heap.size, 0, 5, rfl, by simp, fun i hi => ?_⟩
    rw [Nat.zero_add, World.cell?_alloc_mark]
    match i, hi with
    | 0, _ => rfl
    | 1, _ => rfl
    | 2, _ => rfl
    | 3, _ => rfl
    | 4, _ => rfl
  refine (up_ok (HS1.out.below ba) [104, 101, 108, 108, 111] _ hrow (fun g o len cap e _ => by cases e; omega) (by decide) (by omega) (by omega)).mono ?_
  rintro e w2 ⟨rfl, hs2, hch2⟩
  have HS2 := Lib.hid hs2
  clear hs2 hrow
  go_wp2_with fail
  refine (move0 HS2.out 2 (by omega) (by omega)).mono ?_
  rintro e w3 ⟨v, rfl, hby, hs3, hch3⟩
  have e0 : List.take (took 2 (min ([] ++ [104, 101, 108, 108, 111] : List UInt8).length 16)) ([] ++ [104, 101, 108, 108, 111] : List UInt8) = [104, 101] := by decide
  have e1 : List.drop (took 2 (min ([] ++ [104, 101, 108, 108, 111] : List UInt8).length 16)) ([] ++ [104, 101, 108, 108, 111] : List UInt8) = [108, 108, 111] := by decide
  rw [e0] at hby
  rw [e1] at hs3
  clear e0 e1
  obtain ⟨g, o, cap, rfl, hg, hc⟩ : ∃ g o cap, v = .slice (some ⟨g, o, none⟩) 2 cap ∧ g < w3.heap.size ∧ ∀ i (h : i < [104, 101].length), w3.cell? ⟨g, o + i, none⟩ = some (bv ([104, 101] : List UInt8)[i]) := by
    rcases bys_row hby with ⟨h, _⟩ | h
    · cases h
    · exact h
  have hcv : (convert 22 9 (.slice (some ⟨g, o, none⟩) 2 cap)).run Try.prog w3 = .ok (.string ⟨#[104, 101]⟩) w3 :=
    run_convert_bytes_back (P := Try.prog) w3 22 9 5 ⟨g, o, none⟩ cap [104, 101] Try.underlying22 Try.underlying5 Try.underlying9 (fun j hj => by rw [addr_add]; exact hc j hj)
  have HS3 := Lib.hid hs3
  clear hs3 hby hc
  go_wp2_with (first | (go_at_call 35; refine (waits0 HS3.out).mono ?_; rintro e w' ⟨rfl, rfl⟩) | (go_at_call 37; refine (target_at HS3.out).mono ?_; rintro e w' ⟨rfl, rfl⟩))
  go_ret
  have bb : Below w.heap.size w w3 := ((hbe1.alloc s1 _).trans (hch2.below (by simp; omega) (by simpa using hb0))).trans (hch3.below (by have := hch2.size; simp at this; omega) (by simpa using hb0))
  exact ⟨rfl, bb⟩
end Go.Proofs.Ytinabbdecmjcpaa.Stream
