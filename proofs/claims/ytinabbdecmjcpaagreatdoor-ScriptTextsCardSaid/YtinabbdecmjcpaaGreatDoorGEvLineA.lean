/- The contract of the reference's line of layer 39, kind by kind. -/
import Derived.Test.YtinabbdecmjcpaaGreatDoorGRefHexQ
namespace Go.Proofs.YtinabbdecmjcpaaGreatDoor.Ev
open Go.RowKit Go.Proofs.YtinabbdecmjcpaaGreatDoor Go.Proofs.YtinabbdecmjcpaaGreatDoor.Plain Go.Proofs.YtinabbdecmjcpaaGreatDoor.Words Go.Proofs.YtinabbdecmjcpaaGreatDoor.Named Go.Proofs.YtinabbdecmjcpaaGreatDoor.Hex Go.Proofs.YtinabbdecmjcpaaGreatDoor.Number
open Go.Lib (decDigits)
set_option linter.unusedVariables false

set_option maxRecDepth 100000 in
set_option maxHeartbeats 4000000 in
theorem line1 (se st : Int) (tn : ByteArray) (n : Nat) (m : Int) (b : Nat) (v : Value) (w : World) (hm0 : 0 ≤ m) (hm1 : m ≤ 9223372036854775807) :
    Calls Tryz.prog 40 #[.agg #[.int .i64 1, .int .i64 se, .int .i64 st, .string tn, .int .u64 (n : Int), .int .i64 m, .int .u64 (b : Int), v]] w fun e w' => e = .returned (.tuple #[.string (S (wordN 1 ++ 32 :: decDigits m.toNat)), .agg #[.int .i64 1, .int .i64 0, .int .i64 0, .string ⟨#[]⟩, .int .u64 0, .int .i64 m, .int .u64 0, .slice none 0 0]]) ∧ Below w.heap.size w w' := by
  have hW : Hid (∀ W, Calls Tryz.prog 39 #[.int .i64 1] W fun e w' => e = .returned (.string ⟨#[98, 111, 111, 116]⟩) ∧ Below W.heap.size W w') := Lib.hid (fun W => word39 1 W)
  have hlm : (decDigits m.toNat).length ≤ 20 := dec_len _ (by omega)
  have Hm := Lib.hid (fun W => flip_call (digits39 m W hm0 hm1))
  generalize decDigits m.toNat = tm at *
  go_enter Tryz.func40, Tryz.ntmps40
  go_wp2_with fail
  refine (hW.out _).mono ?_
  rintro e w1 ⟨rfl, hb1⟩
  have HB := C8.new w (.int .i64 1) (.int .i64 se) (.int .i64 st) (.string tn) (.int .u64 (n : Int)) (.int .i64 m) (.int .u64 (b : Int)) (v) 44
  have hz : (w.alloc (.cells #[.int .i64 1, .int .i64 se, .int .i64 st, .string tn, .int .u64 (n : Int), .int .i64 m, .int .u64 (b : Int), v] 44)).heap.size = w.heap.size + 1 := by simp
  have HR := C8.new (w.alloc (.cells #[.int .i64 1, .int .i64 se, .int .i64 st, .string tn, .int .u64 (n : Int), .int .i64 m, .int .u64 (b : Int), v] 44)) (.int .i64 0) (.int .i64 0) (.int .i64 0) (.string ⟨#[]⟩) (.int .u64 0) (.int .i64 0) (.int .u64 0) (.slice none 0 0) 44
  rw [hz] at HR
  have B1 := (HB.below ((Below.refl _ _).alloc (Nat.le_refl _) _)).below hb1
  have R1 := HR.below hb1
  have HB1 := Lib.hid B1
  have HR1 := Lib.hid R1
  have s1 := hb1.size
  have s2 : w.heap.size + 2 ≤ w1.heap.size := by simpa using s1
  have hB : Below w.heap.size w w1 := (((Below.refl _ _).alloc (Nat.le_refl _) _).alloc (by simp) _).trans (hb1.mono (by simp; omega))
  have BB := Lib.hid hB
  clear HB HR hz s1 hW hb1 hB B1 R1
  obtain ⟨x0, x1, x2, x3, x4, x5, x6, x7, xf⟩ := HB1.out
  obtain ⟨y0, y1, y2, y3, y4, y5, y6, y7, yf⟩ := HR1.out
  have f0 := yf 0
  have f1 := yf 1
  have f2 := yf 2
  have f3 := yf 3
  have f4 := yf 4
  have f5 := yf 5
  have f6 := yf 6
  have f7 := yf 7
  clear xf yf HB1
  have l1 : w.heap.size < w1.heap.size := by omega
  have l2 : w.heap.size + 1 < w1.heap.size := by omega
  have n1 : w.heap.size ≠ w1.heap.size := by omega
  have n2 : w.heap.size + 1 ≠ w1.heap.size := by omega
  go_wp2_with (first | (go_at_call 61; refine (Hm.out _).mono ?_; rintro e w' ⟨rfl, hw'⟩; subst hw'))
  go_region
  go_wp2
  refine bodyPost_ret (v := .tuple #[.string (S (wordN 1 ++ 32 :: tm)), .agg #[.int .i64 1, .int .i64 0, .int .i64 0, .string ⟨#[]⟩, .int .u64 0, .int .i64 m, .int .u64 0, .slice none 0 0]]) ?_ rfl ⟨rfl, ?_⟩
  · have K := (put8 HR1.out (.int .i64 1) (.int .i64 0) (.int .i64 0) (.string ⟨#[]⟩) (.int .u64 0) (.int .i64 m) (.int .u64 0) (.slice none 0 0)).below ((Below.refl _ _).alloc (Nat.le_refl _) (.cells #[.int .i64 1, .int .i64 0, .int .i64 0, .string ⟨#[]⟩, .int .u64 0, .int .i64 m, .int .u64 0, .slice none 0 0] 44))
    obtain ⟨k0, k1, k2, k3, k4, k5, k6, k7, _⟩ := K
    have es : (⟨#[98, 111, 111, 116]⟩ : ByteArray) ++ ⟨#[32]⟩ ++ S tm = S (wordN 1 ++ 32 :: tm) := by
      skip
      show S [98, 111, 111, 116] ++ S [32] ++ S tm = _
      rw [append_S, append_S]
      simp [wordN]
    simp [results, Tryz.results40, go_sem, k0, k1, k2, k3, k4, k5, k6, k7, es]
  · exact ((below_put8 BB.out (by omega) _ _ _ _ _ _ _ _).alloc (by simp; omega) _).drew

set_option maxRecDepth 100000 in
set_option maxHeartbeats 4000000 in
theorem line4 (se st : Int) (tn : ByteArray) (n : Nat) (m : Int) (b : Nat) (v : Value) (w : World) (hse0 : 0 ≤ se) (hse1 : se ≤ 9223372036854775807) :
    Calls Tryz.prog 40 #[.agg #[.int .i64 4, .int .i64 se, .int .i64 st, .string tn, .int .u64 (n : Int), .int .i64 m, .int .u64 (b : Int), v]] w fun e w' => e = .returned (.tuple #[.string (S (wordN 4 ++ 32 :: decDigits se.toNat)), .agg #[.int .i64 4, .int .i64 se, .int .i64 0, .string ⟨#[]⟩, .int .u64 0, .int .i64 0, .int .u64 0, .slice none 0 0]]) ∧ Below w.heap.size w w' := by
  have hW : Hid (∀ W, Calls Tryz.prog 39 #[.int .i64 4] W fun e w' => e = .returned (.string ⟨#[104, 97, 110, 103, 117, 112]⟩) ∧ Below W.heap.size W w') := Lib.hid (fun W => word39 4 W)
  have hlse : (decDigits se.toNat).length ≤ 20 := dec_len _ (by omega)
  have Hse := Lib.hid (fun W => flip_call (digits39 se W hse0 hse1))
  generalize decDigits se.toNat = tse at *
  go_enter Tryz.func40, Tryz.ntmps40
  go_wp2_with fail
  refine (hW.out _).mono ?_
  rintro e w1 ⟨rfl, hb1⟩
  have HB := C8.new w (.int .i64 4) (.int .i64 se) (.int .i64 st) (.string tn) (.int .u64 (n : Int)) (.int .i64 m) (.int .u64 (b : Int)) (v) 44
  have hz : (w.alloc (.cells #[.int .i64 4, .int .i64 se, .int .i64 st, .string tn, .int .u64 (n : Int), .int .i64 m, .int .u64 (b : Int), v] 44)).heap.size = w.heap.size + 1 := by simp
  have HR := C8.new (w.alloc (.cells #[.int .i64 4, .int .i64 se, .int .i64 st, .string tn, .int .u64 (n : Int), .int .i64 m, .int .u64 (b : Int), v] 44)) (.int .i64 0) (.int .i64 0) (.int .i64 0) (.string ⟨#[]⟩) (.int .u64 0) (.int .i64 0) (.int .u64 0) (.slice none 0 0) 44
  rw [hz] at HR
  have B1 := (HB.below ((Below.refl _ _).alloc (Nat.le_refl _) _)).below hb1
  have R1 := HR.below hb1
  have HB1 := Lib.hid B1
  have HR1 := Lib.hid R1
  have s1 := hb1.size
  have s2 : w.heap.size + 2 ≤ w1.heap.size := by simpa using s1
  have hB : Below w.heap.size w w1 := (((Below.refl _ _).alloc (Nat.le_refl _) _).alloc (by simp) _).trans (hb1.mono (by simp; omega))
  have BB := Lib.hid hB
  clear HB HR hz s1 hW hb1 hB B1 R1
  obtain ⟨x0, x1, x2, x3, x4, x5, x6, x7, xf⟩ := HB1.out
  obtain ⟨y0, y1, y2, y3, y4, y5, y6, y7, yf⟩ := HR1.out
  have f0 := yf 0
  have f1 := yf 1
  have f2 := yf 2
  have f3 := yf 3
  have f4 := yf 4
  have f5 := yf 5
  have f6 := yf 6
  have f7 := yf 7
  clear xf yf HB1
  have l1 : w.heap.size < w1.heap.size := by omega
  have l2 : w.heap.size + 1 < w1.heap.size := by omega
  have n1 : w.heap.size ≠ w1.heap.size := by omega
  have n2 : w.heap.size + 1 ≠ w1.heap.size := by omega
  go_wp2_with (first | (go_at_call 61; refine (Hse.out _).mono ?_; rintro e w' ⟨rfl, hw'⟩; subst hw'))
  go_region
  go_wp2
  refine bodyPost_ret (v := .tuple #[.string (S (wordN 4 ++ 32 :: tse)), .agg #[.int .i64 4, .int .i64 se, .int .i64 0, .string ⟨#[]⟩, .int .u64 0, .int .i64 0, .int .u64 0, .slice none 0 0]]) ?_ rfl ⟨rfl, ?_⟩
  · have K := (put8 HR1.out (.int .i64 4) (.int .i64 se) (.int .i64 0) (.string ⟨#[]⟩) (.int .u64 0) (.int .i64 0) (.int .u64 0) (.slice none 0 0)).below ((Below.refl _ _).alloc (Nat.le_refl _) (.cells #[.int .i64 4, .int .i64 se, .int .i64 0, .string ⟨#[]⟩, .int .u64 0, .int .i64 0, .int .u64 0, .slice none 0 0] 44))
    obtain ⟨k0, k1, k2, k3, k4, k5, k6, k7, _⟩ := K
    have es : (⟨#[104, 97, 110, 103, 117, 112]⟩ : ByteArray) ++ ⟨#[32]⟩ ++ S tse = S (wordN 4 ++ 32 :: tse) := by
      skip
      show S [104, 97, 110, 103, 117, 112] ++ S [32] ++ S tse = _
      rw [append_S, append_S]
      simp [wordN]
    simp [results, Tryz.results40, go_sem, k0, k1, k2, k3, k4, k5, k6, k7, es]
  · exact ((below_put8 BB.out (by omega) _ _ _ _ _ _ _ _).alloc (by simp; omega) _).drew

set_option maxRecDepth 100000 in
set_option maxHeartbeats 4000000 in
theorem line8 (se st : Int) (tn : ByteArray) (n : Nat) (m : Int) (b : Nat) (v : Value) (w : World) :
    Calls Tryz.prog 40 #[.agg #[.int .i64 8, .int .i64 se, .int .i64 st, .string tn, .int .u64 (n : Int), .int .i64 m, .int .u64 (b : Int), v]] w fun e w' => e = .returned (.tuple #[.string (S (wordN 8)), .agg #[.int .i64 8, .int .i64 0, .int .i64 0, .string ⟨#[]⟩, .int .u64 0, .int .i64 0, .int .u64 0, .slice none 0 0]]) ∧ Below w.heap.size w w' := by
  have hW : Hid (∀ W, Calls Tryz.prog 39 #[.int .i64 8] W fun e w' => e = .returned (.string ⟨#[99, 111, 109, 109, 105, 116]⟩) ∧ Below W.heap.size W w') := Lib.hid (fun W => word39 8 W)
  go_enter Tryz.func40, Tryz.ntmps40
  go_wp2_with fail
  refine (hW.out _).mono ?_
  rintro e w1 ⟨rfl, hb1⟩
  have HB := C8.new w (.int .i64 8) (.int .i64 se) (.int .i64 st) (.string tn) (.int .u64 (n : Int)) (.int .i64 m) (.int .u64 (b : Int)) (v) 44
  have hz : (w.alloc (.cells #[.int .i64 8, .int .i64 se, .int .i64 st, .string tn, .int .u64 (n : Int), .int .i64 m, .int .u64 (b : Int), v] 44)).heap.size = w.heap.size + 1 := by simp
  have HR := C8.new (w.alloc (.cells #[.int .i64 8, .int .i64 se, .int .i64 st, .string tn, .int .u64 (n : Int), .int .i64 m, .int .u64 (b : Int), v] 44)) (.int .i64 0) (.int .i64 0) (.int .i64 0) (.string ⟨#[]⟩) (.int .u64 0) (.int .i64 0) (.int .u64 0) (.slice none 0 0) 44
  rw [hz] at HR
  have B1 := (HB.below ((Below.refl _ _).alloc (Nat.le_refl _) _)).below hb1
  have R1 := HR.below hb1
  have HB1 := Lib.hid B1
  have HR1 := Lib.hid R1
  have s1 := hb1.size
  have s2 : w.heap.size + 2 ≤ w1.heap.size := by simpa using s1
  have hB : Below w.heap.size w w1 := (((Below.refl _ _).alloc (Nat.le_refl _) _).alloc (by simp) _).trans (hb1.mono (by simp; omega))
  have BB := Lib.hid hB
  clear HB HR hz s1 hW hb1 hB B1 R1
  obtain ⟨x0, x1, x2, x3, x4, x5, x6, x7, xf⟩ := HB1.out
  obtain ⟨y0, y1, y2, y3, y4, y5, y6, y7, yf⟩ := HR1.out
  have f0 := yf 0
  have f1 := yf 1
  have f2 := yf 2
  have f3 := yf 3
  have f4 := yf 4
  have f5 := yf 5
  have f6 := yf 6
  have f7 := yf 7
  clear xf yf HB1
  have l1 : w.heap.size < w1.heap.size := by omega
  have l2 : w.heap.size + 1 < w1.heap.size := by omega
  have n1 : w.heap.size ≠ w1.heap.size := by omega
  have n2 : w.heap.size + 1 ≠ w1.heap.size := by omega
  go_wp2_with fail
  go_region
  go_wp2
  refine bodyPost_ret (v := .tuple #[.string (S (wordN 8)), .agg #[.int .i64 8, .int .i64 0, .int .i64 0, .string ⟨#[]⟩, .int .u64 0, .int .i64 0, .int .u64 0, .slice none 0 0]]) ?_ rfl ⟨rfl, ?_⟩
  · have K := (put8 HR1.out (.int .i64 8) (.int .i64 0) (.int .i64 0) (.string ⟨#[]⟩) (.int .u64 0) (.int .i64 0) (.int .u64 0) (.slice none 0 0)).below ((Below.refl _ _).alloc (Nat.le_refl _) (.cells #[.int .i64 8, .int .i64 0, .int .i64 0, .string ⟨#[]⟩, .int .u64 0, .int .i64 0, .int .u64 0, .slice none 0 0] 44))
    obtain ⟨k0, k1, k2, k3, k4, k5, k6, k7, _⟩ := K
    simp [results, Tryz.results40, go_sem, k0, k1, k2, k3, k4, k5, k6, k7, wordN]
  · exact ((below_put8 BB.out (by omega) _ _ _ _ _ _ _ _).alloc (by simp; omega) _).drew

set_option maxRecDepth 100000 in
set_option maxHeartbeats 4000000 in
theorem line9 (se st : Int) (tn : ByteArray) (n : Nat) (m : Int) (b : Nat) (v : Value) (w : World) :
    Calls Tryz.prog 40 #[.agg #[.int .i64 9, .int .i64 se, .int .i64 st, .string tn, .int .u64 (n : Int), .int .i64 m, .int .u64 (b : Int), v]] w fun e w' => e = .returned (.tuple #[.string (S (wordN 9)), .agg #[.int .i64 9, .int .i64 0, .int .i64 0, .string ⟨#[]⟩, .int .u64 0, .int .i64 0, .int .u64 0, .slice none 0 0]]) ∧ Below w.heap.size w w' := by
  have hW : Hid (∀ W, Calls Tryz.prog 39 #[.int .i64 9] W fun e w' => e = .returned (.string ⟨#[116, 105, 99, 107]⟩) ∧ Below W.heap.size W w') := Lib.hid (fun W => word39 9 W)
  go_enter Tryz.func40, Tryz.ntmps40
  go_wp2_with fail
  refine (hW.out _).mono ?_
  rintro e w1 ⟨rfl, hb1⟩
  have HB := C8.new w (.int .i64 9) (.int .i64 se) (.int .i64 st) (.string tn) (.int .u64 (n : Int)) (.int .i64 m) (.int .u64 (b : Int)) (v) 44
  have hz : (w.alloc (.cells #[.int .i64 9, .int .i64 se, .int .i64 st, .string tn, .int .u64 (n : Int), .int .i64 m, .int .u64 (b : Int), v] 44)).heap.size = w.heap.size + 1 := by simp
  have HR := C8.new (w.alloc (.cells #[.int .i64 9, .int .i64 se, .int .i64 st, .string tn, .int .u64 (n : Int), .int .i64 m, .int .u64 (b : Int), v] 44)) (.int .i64 0) (.int .i64 0) (.int .i64 0) (.string ⟨#[]⟩) (.int .u64 0) (.int .i64 0) (.int .u64 0) (.slice none 0 0) 44
  rw [hz] at HR
  have B1 := (HB.below ((Below.refl _ _).alloc (Nat.le_refl _) _)).below hb1
  have R1 := HR.below hb1
  have HB1 := Lib.hid B1
  have HR1 := Lib.hid R1
  have s1 := hb1.size
  have s2 : w.heap.size + 2 ≤ w1.heap.size := by simpa using s1
  have hB : Below w.heap.size w w1 := (((Below.refl _ _).alloc (Nat.le_refl _) _).alloc (by simp) _).trans (hb1.mono (by simp; omega))
  have BB := Lib.hid hB
  clear HB HR hz s1 hW hb1 hB B1 R1
  obtain ⟨x0, x1, x2, x3, x4, x5, x6, x7, xf⟩ := HB1.out
  obtain ⟨y0, y1, y2, y3, y4, y5, y6, y7, yf⟩ := HR1.out
  have f0 := yf 0
  have f1 := yf 1
  have f2 := yf 2
  have f3 := yf 3
  have f4 := yf 4
  have f5 := yf 5
  have f6 := yf 6
  have f7 := yf 7
  clear xf yf HB1
  have l1 : w.heap.size < w1.heap.size := by omega
  have l2 : w.heap.size + 1 < w1.heap.size := by omega
  have n1 : w.heap.size ≠ w1.heap.size := by omega
  have n2 : w.heap.size + 1 ≠ w1.heap.size := by omega
  go_wp2_with fail
  go_region
  go_wp2
  refine bodyPost_ret (v := .tuple #[.string (S (wordN 9)), .agg #[.int .i64 9, .int .i64 0, .int .i64 0, .string ⟨#[]⟩, .int .u64 0, .int .i64 0, .int .u64 0, .slice none 0 0]]) ?_ rfl ⟨rfl, ?_⟩
  · have K := (put8 HR1.out (.int .i64 9) (.int .i64 0) (.int .i64 0) (.string ⟨#[]⟩) (.int .u64 0) (.int .i64 0) (.int .u64 0) (.slice none 0 0)).below ((Below.refl _ _).alloc (Nat.le_refl _) (.cells #[.int .i64 9, .int .i64 0, .int .i64 0, .string ⟨#[]⟩, .int .u64 0, .int .i64 0, .int .u64 0, .slice none 0 0] 44))
    obtain ⟨k0, k1, k2, k3, k4, k5, k6, k7, _⟩ := K
    simp [results, Tryz.results40, go_sem, k0, k1, k2, k3, k4, k5, k6, k7, wordN]
  · exact ((below_put8 BB.out (by omega) _ _ _ _ _ _ _ _).alloc (by simp; omega) _).drew

set_option maxRecDepth 100000 in
set_option maxHeartbeats 4000000 in
theorem line14 (se st : Int) (tn : ByteArray) (n : Nat) (m : Int) (b : Nat) (v : Value) (w : World) :
    Calls Tryz.prog 40 #[.agg #[.int .i64 14, .int .i64 se, .int .i64 st, .string tn, .int .u64 (n : Int), .int .i64 m, .int .u64 (b : Int), v]] w fun e w' => e = .returned (.tuple #[.string (S (wordN 14)), .agg #[.int .i64 14, .int .i64 0, .int .i64 0, .string ⟨#[]⟩, .int .u64 0, .int .i64 0, .int .u64 0, .slice none 0 0]]) ∧ Below w.heap.size w w' := by
  have hW : Hid (∀ W, Calls Tryz.prog 39 #[.int .i64 14] W fun e w' => e = .returned (.string ⟨#[99, 111, 109, 112, 97, 99, 116]⟩) ∧ Below W.heap.size W w') := Lib.hid (fun W => word39 14 W)
  go_enter Tryz.func40, Tryz.ntmps40
  go_wp2_with fail
  refine (hW.out _).mono ?_
  rintro e w1 ⟨rfl, hb1⟩
  have HB := C8.new w (.int .i64 14) (.int .i64 se) (.int .i64 st) (.string tn) (.int .u64 (n : Int)) (.int .i64 m) (.int .u64 (b : Int)) (v) 44
  have hz : (w.alloc (.cells #[.int .i64 14, .int .i64 se, .int .i64 st, .string tn, .int .u64 (n : Int), .int .i64 m, .int .u64 (b : Int), v] 44)).heap.size = w.heap.size + 1 := by simp
  have HR := C8.new (w.alloc (.cells #[.int .i64 14, .int .i64 se, .int .i64 st, .string tn, .int .u64 (n : Int), .int .i64 m, .int .u64 (b : Int), v] 44)) (.int .i64 0) (.int .i64 0) (.int .i64 0) (.string ⟨#[]⟩) (.int .u64 0) (.int .i64 0) (.int .u64 0) (.slice none 0 0) 44
  rw [hz] at HR
  have B1 := (HB.below ((Below.refl _ _).alloc (Nat.le_refl _) _)).below hb1
  have R1 := HR.below hb1
  have HB1 := Lib.hid B1
  have HR1 := Lib.hid R1
  have s1 := hb1.size
  have s2 : w.heap.size + 2 ≤ w1.heap.size := by simpa using s1
  have hB : Below w.heap.size w w1 := (((Below.refl _ _).alloc (Nat.le_refl _) _).alloc (by simp) _).trans (hb1.mono (by simp; omega))
  have BB := Lib.hid hB
  clear HB HR hz s1 hW hb1 hB B1 R1
  obtain ⟨x0, x1, x2, x3, x4, x5, x6, x7, xf⟩ := HB1.out
  obtain ⟨y0, y1, y2, y3, y4, y5, y6, y7, yf⟩ := HR1.out
  have f0 := yf 0
  have f1 := yf 1
  have f2 := yf 2
  have f3 := yf 3
  have f4 := yf 4
  have f5 := yf 5
  have f6 := yf 6
  have f7 := yf 7
  clear xf yf HB1
  have l1 : w.heap.size < w1.heap.size := by omega
  have l2 : w.heap.size + 1 < w1.heap.size := by omega
  have n1 : w.heap.size ≠ w1.heap.size := by omega
  have n2 : w.heap.size + 1 ≠ w1.heap.size := by omega
  go_wp2_with fail
  go_region
  go_wp2
  refine bodyPost_ret (v := .tuple #[.string (S (wordN 14)), .agg #[.int .i64 14, .int .i64 0, .int .i64 0, .string ⟨#[]⟩, .int .u64 0, .int .i64 0, .int .u64 0, .slice none 0 0]]) ?_ rfl ⟨rfl, ?_⟩
  · have K := (put8 HR1.out (.int .i64 14) (.int .i64 0) (.int .i64 0) (.string ⟨#[]⟩) (.int .u64 0) (.int .i64 0) (.int .u64 0) (.slice none 0 0)).below ((Below.refl _ _).alloc (Nat.le_refl _) (.cells #[.int .i64 14, .int .i64 0, .int .i64 0, .string ⟨#[]⟩, .int .u64 0, .int .i64 0, .int .u64 0, .slice none 0 0] 44))
    obtain ⟨k0, k1, k2, k3, k4, k5, k6, k7, _⟩ := K
    simp [results, Tryz.results40, go_sem, k0, k1, k2, k3, k4, k5, k6, k7, wordN]
  · exact ((below_put8 BB.out (by omega) _ _ _ _ _ _ _ _).alloc (by simp; omega) _).drew

set_option maxRecDepth 100000 in
set_option maxHeartbeats 4000000 in
theorem line12 (se st : Int) (tn : ByteArray) (n : Nat) (m : Int) (b : Nat) (v : Value) (w : World) (htn : tn.size ≤ 1000000) :
    Calls Tryz.prog 40 #[.agg #[.int .i64 12, .int .i64 se, .int .i64 st, .string tn, .int .u64 (n : Int), .int .i64 m, .int .u64 (b : Int), v]] w fun e w' => e = .returned (.tuple #[.string (S (wordN 12 ++ 32 :: L tn)), .agg #[.int .i64 12, .int .i64 0, .int .i64 0, .string tn, .int .u64 0, .int .i64 0, .int .u64 0, .slice none 0 0]]) ∧ Below w.heap.size w w' := by
  have hW : Hid (∀ W, Calls Tryz.prog 39 #[.int .i64 12] W fun e w' => e = .returned (.string ⟨#[99, 108, 111, 115, 101]⟩) ∧ Below W.heap.size W w') := Lib.hid (fun W => word39 12 W)
  go_enter Tryz.func40, Tryz.ntmps40
  go_wp2_with fail
  refine (hW.out _).mono ?_
  rintro e w1 ⟨rfl, hb1⟩
  have HB := C8.new w (.int .i64 12) (.int .i64 se) (.int .i64 st) (.string tn) (.int .u64 (n : Int)) (.int .i64 m) (.int .u64 (b : Int)) (v) 44
  have hz : (w.alloc (.cells #[.int .i64 12, .int .i64 se, .int .i64 st, .string tn, .int .u64 (n : Int), .int .i64 m, .int .u64 (b : Int), v] 44)).heap.size = w.heap.size + 1 := by simp
  have HR := C8.new (w.alloc (.cells #[.int .i64 12, .int .i64 se, .int .i64 st, .string tn, .int .u64 (n : Int), .int .i64 m, .int .u64 (b : Int), v] 44)) (.int .i64 0) (.int .i64 0) (.int .i64 0) (.string ⟨#[]⟩) (.int .u64 0) (.int .i64 0) (.int .u64 0) (.slice none 0 0) 44
  rw [hz] at HR
  have B1 := (HB.below ((Below.refl _ _).alloc (Nat.le_refl _) _)).below hb1
  have R1 := HR.below hb1
  have HB1 := Lib.hid B1
  have HR1 := Lib.hid R1
  have s1 := hb1.size
  have s2 : w.heap.size + 2 ≤ w1.heap.size := by simpa using s1
  have hB : Below w.heap.size w w1 := (((Below.refl _ _).alloc (Nat.le_refl _) _).alloc (by simp) _).trans (hb1.mono (by simp; omega))
  have BB := Lib.hid hB
  clear HB HR hz s1 hW hb1 hB B1 R1
  obtain ⟨x0, x1, x2, x3, x4, x5, x6, x7, xf⟩ := HB1.out
  obtain ⟨y0, y1, y2, y3, y4, y5, y6, y7, yf⟩ := HR1.out
  have f0 := yf 0
  have f1 := yf 1
  have f2 := yf 2
  have f3 := yf 3
  have f4 := yf 4
  have f5 := yf 5
  have f6 := yf 6
  have f7 := yf 7
  clear xf yf HB1
  have l1 : w.heap.size < w1.heap.size := by omega
  have l2 : w.heap.size + 1 < w1.heap.size := by omega
  have n1 : w.heap.size ≠ w1.heap.size := by omega
  have n2 : w.heap.size + 1 ≠ w1.heap.size := by omega
  go_wp2_with fail
  go_region
  go_wp2
  refine bodyPost_ret (v := .tuple #[.string (S (wordN 12 ++ 32 :: (L tn))), .agg #[.int .i64 12, .int .i64 0, .int .i64 0, .string tn, .int .u64 0, .int .i64 0, .int .u64 0, .slice none 0 0]]) ?_ rfl ⟨rfl, ?_⟩
  · have K := (put8 HR1.out (.int .i64 12) (.int .i64 0) (.int .i64 0) (.string tn) (.int .u64 0) (.int .i64 0) (.int .u64 0) (.slice none 0 0)).below ((Below.refl _ _).alloc (Nat.le_refl _) (.cells #[.int .i64 12, .int .i64 0, .int .i64 0, .string tn, .int .u64 0, .int .i64 0, .int .u64 0, .slice none 0 0] 44))
    obtain ⟨k0, k1, k2, k3, k4, k5, k6, k7, _⟩ := K
    have es : (⟨#[99, 108, 111, 115, 101]⟩ : ByteArray) ++ ⟨#[32]⟩ ++ tn = S (wordN 12 ++ 32 :: (L tn)) := by
      rw [show tn = S (L tn) from (S_L tn).symm]
      show S [99, 108, 111, 115, 101] ++ S [32] ++ S (L tn) = _
      rw [append_S, append_S]
      simp [wordN]
    simp [results, Tryz.results40, go_sem, k0, k1, k2, k3, k4, k5, k6, k7, es]
  · exact ((below_put8 BB.out (by omega) _ _ _ _ _ _ _ _).alloc (by simp; omega) _).drew
end Go.Proofs.YtinabbdecmjcpaaGreatDoor.Ev
