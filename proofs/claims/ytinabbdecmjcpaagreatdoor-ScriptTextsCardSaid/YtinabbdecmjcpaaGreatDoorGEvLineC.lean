/- The contract of the reference's line of layer 39, kind by kind. -/
import Derived.Test.YtinabbdecmjcpaaGreatDoorGRefHexQ
namespace Go.Proofs.YtinabbdecmjcpaaGreatDoor.Ev
open Go.RowKit Go.Proofs.YtinabbdecmjcpaaGreatDoor Go.Proofs.YtinabbdecmjcpaaGreatDoor.Plain Go.Proofs.YtinabbdecmjcpaaGreatDoor.Words Go.Proofs.YtinabbdecmjcpaaGreatDoor.Named Go.Proofs.YtinabbdecmjcpaaGreatDoor.Hex Go.Proofs.YtinabbdecmjcpaaGreatDoor.Number
open Go.Lib (decDigits)
set_option linter.unusedVariables false

set_option maxRecDepth 100000 in
set_option maxHeartbeats 4000000 in
theorem line7 (se st : Int) (tn : ByteArray) (n : Nat) (m : Int) (b : Nat) (v : Value) (w : World) (htn : tn.size ≤ 1000000) (hb : b < 18446744073709551616) :
    Calls Tryz.prog 40 #[.agg #[.int .i64 7, .int .i64 se, .int .i64 st, .string tn, .int .u64 (n : Int), .int .i64 m, .int .u64 (b : Int), v]] w fun e w' => e = .returned (.tuple #[.string (S (wordN 7 ++ 32 :: (L tn ++ 32 :: decDigits b))), .agg #[.int .i64 7, .int .i64 0, .int .i64 0, .string tn, .int .u64 0, .int .i64 0, .int .u64 (b : Int), .slice none 0 0]]) ∧ Below w.heap.size w w' := by
  have hW : Hid (∀ W, Calls Tryz.prog 39 #[.int .i64 7] W fun e w' => e = .returned (.string ⟨#[112, 105, 99, 107]⟩) ∧ Below W.heap.size W w') := Lib.hid (fun W => word39 7 W)
  have hlb : (decDigits b).length ≤ 20 := dec_len _ hb
  have Hb := Lib.hid (fun W => flip_call (refdigits_any b W hb))
  clear hb
  generalize decDigits b = tb at *
  go_enter Tryz.func40, Tryz.ntmps40
  go_wp2_with fail
  refine (hW.out _).mono ?_
  rintro e w1 ⟨rfl, hb1⟩
  have HB := C8.new w (.int .i64 7) (.int .i64 se) (.int .i64 st) (.string tn) (.int .u64 (n : Int)) (.int .i64 m) (.int .u64 (b : Int)) (v) 44
  have hz : (w.alloc (.cells #[.int .i64 7, .int .i64 se, .int .i64 st, .string tn, .int .u64 (n : Int), .int .i64 m, .int .u64 (b : Int), v] 44)).heap.size = w.heap.size + 1 := by simp
  have HR := C8.new (w.alloc (.cells #[.int .i64 7, .int .i64 se, .int .i64 st, .string tn, .int .u64 (n : Int), .int .i64 m, .int .u64 (b : Int), v] 44)) (.int .i64 0) (.int .i64 0) (.int .i64 0) (.string ⟨#[]⟩) (.int .u64 0) (.int .i64 0) (.int .u64 0) (.slice none 0 0) 44
  rw [hz] at HR
  have B1 := (HB.below ((Below.refl _ _).alloc (Nat.le_refl _) _)).below hb1
  have R1 := HR.below hb1
  have HB1 := Lib.hid B1
  have HR1 := Lib.hid R1
  have s1 := hb1.size
  have s2 : w.heap.size + 2 ≤ w1.heap.size := by simpa using s1
  have hB : Below w.heap.size w w1 := (((Below.refl _ _).alloc (Nat.le_refl _) _).alloc (by simp) _).trans (hb1.mono (by simp; omega))
  have BB := Lib.hid hB
  clear HB HR hz s1 hW hb1 hB B1 R1
  have HN := C8.new w1 (.int .i64 7) (.int .i64 0) (.int .i64 0) (.string ⟨#[]⟩) (.int .u64 0) (.int .i64 0) (.int .u64 0) (.slice none 0 0) 44
  have ba : Below w1.heap.size w1 (w1.alloc (.cells #[.int .i64 7, .int .i64 0, .int .i64 0, .string ⟨#[]⟩, .int .u64 0, .int .i64 0, .int .u64 0, .slice none 0 0] 44)) := (Below.refl _ _).alloc (Nat.le_refl _) _
  have HB2 := Lib.hid (HB1.out.below ba)
  have HR2 := Lib.hid (HR1.out.below ba)
  have HN2 := Lib.hid HN
  have hz1 : (w1.alloc (.cells #[.int .i64 7, .int .i64 0, .int .i64 0, .string ⟨#[]⟩, .int .u64 0, .int .i64 0, .int .u64 0, .slice none 0 0] 44)).heap.size = w1.heap.size + 1 := by simp
  have HB0 := Lib.hid (BB.out.trans (ba.mono (by omega)))

  obtain ⟨x0, x1, x2, x3, x4, x5, x6, x7, xf⟩ := HB1.out
  clear xf HN ba
  have l1 : w.heap.size < w1.heap.size := by omega
  have l2 : w.heap.size + 1 < w1.heap.size := by omega
  have n1 : w.heap.size ≠ w1.heap.size := by omega
  have n2 : w.heap.size + 1 ≠ w1.heap.size := by omega
  go_wp2_with fail
  clear x0 x1 x2 x3 x4 x5 x6 x7
  obtain ⟨z0, z1, z2, z3, z4, z5, z6, z7, zf⟩ := HB2.out
  have HZ1 := Lib.hid hz1
  clear zf hz1 HB1 HR1 BB
  generalize w1.alloc (.cells #[.int .i64 7, .int .i64 0, .int .i64 0, .string ⟨#[]⟩, .int .u64 0, .int .i64 0, .int .u64 0, .slice none 0 0] 44) = W at *
  go_quiet ((first | (go_at_call 25; exact Calls.quiet_of_same (Hb.out _))))
  all_goals
    have hb3 : Below W.heap.size W (W.drewN nq) := below_drewN (Below.refl _ _) nq
    clear z0 z1 z2 z3 z4 z5 z6 z7
    generalize W.drewN nq = w2 at *
    have B2 := HB2.out.below hb3
    have R2 := HR2.out.below hb3
    have N2 := HN2.out.below hb3
    have HR3 := Lib.hid R2
    have HB3 := Lib.hid hb3
    have s3 := hb3.size
    have s4 := HZ1.out
    have l3 : w1.heap.size < w2.heap.size := by omega
    obtain ⟨x0, x1, x2, x3, x4, x5, x6, x7, xf⟩ := B2
    obtain ⟨y0, y1, y2, y3, y4, y5, y6, y7, yf⟩ := R2
    obtain ⟨v0, v1, v2, v3, v4, v5, v6, v7, vf⟩ := N2
    have f0 := yf 0
    have f1 := yf 1
    have f2 := yf 2
    have f3 := yf 3
    have f4 := yf 4
    have f5 := yf 5
    have f6 := yf 6
    have f7 := yf 7
    have e3 := vf 3
    have e6 := vf 6
    have so := set_off8
    clear xf yf vf hb3 s4
    go_wp2_with fail
    go_region
    go_wp2
    refine bodyPost_ret (v := .tuple #[.string (S (wordN 7 ++ 32 :: ((L tn) ++ 32 :: tb))), .agg #[.int .i64 7, .int .i64 0, .int .i64 0, .string tn, .int .u64 0, .int .i64 0, .int .u64 (b : Int), .slice none 0 0]]) ?_ rfl ⟨rfl, ?_⟩
    · have K := put8 (HR3.out.chg (bs := [w1.heap.size]) (((Chg.refl _ _).setCell (p := ⟨w1.heap.size, 3, none⟩) (by simp) (.string tn)).setCell (p := ⟨w1.heap.size, 6, none⟩) (by simp) (.int .u64 (b : Int))) (by simp; omega)) (.int .i64 7) (.int .i64 0) (.int .i64 0) (.string tn) (.int .u64 0) (.int .i64 0) (.int .u64 (b : Int)) (.slice none 0 0)
      obtain ⟨k0, k1, k2, k3, k4, k5, k6, k7, _⟩ := K
      have es : (⟨#[112, 105, 99, 107]⟩ : ByteArray) ++ ⟨#[32]⟩ ++ tn ++ ⟨#[32]⟩ ++ S tb = S (wordN 7 ++ 32 :: ((L tn) ++ 32 :: tb)) := by
        rw [show tn = S (L tn) from (S_L tn).symm]
        show S [112, 105, 99, 107] ++ S [32] ++ S (L tn) ++ S [32] ++ S tb = _
        rw [append_S, append_S, append_S, append_S]
        simp [wordN]
      simp [results, Tryz.results40, go_sem, k0, k1, k2, k3, k4, k5, k6, k7, es]
    · have hB : Below w.heap.size w ((w2.setCell ⟨w1.heap.size, 3, none⟩ (.string tn)).setCell ⟨w1.heap.size, 6, none⟩ (.int .u64 (b : Int))) := (((HB0.out.trans (HB3.out.mono (by have := HZ1.out; omega)))).setCell (p := ⟨w1.heap.size, 3, none⟩) (by show w.heap.size ≤ w1.heap.size; omega) (.string tn)).setCell (p := ⟨w1.heap.size, 6, none⟩) (by show w.heap.size ≤ w1.heap.size; omega) (.int .u64 (b : Int))
      exact (below_put8 hB (by omega) _ _ _ _ _ _ _ _).drew

set_option maxRecDepth 100000 in
set_option maxHeartbeats 4000000 in
theorem line10 (se st : Int) (tn : ByteArray) (n : Nat) (m : Int) (b : Nat) (v : Value) (w : World) (htn : tn.size ≤ 1000000) (hn : n < 18446744073709551616) :
    Calls Tryz.prog 40 #[.agg #[.int .i64 10, .int .i64 se, .int .i64 st, .string tn, .int .u64 (n : Int), .int .i64 m, .int .u64 (b : Int), v]] w fun e w' => e = .returned (.tuple #[.string (S (wordN 10 ++ 32 :: (L tn ++ 32 :: decDigits n))), .agg #[.int .i64 10, .int .i64 0, .int .i64 0, .string tn, .int .u64 (n : Int), .int .i64 0, .int .u64 0, .slice none 0 0]]) ∧ Below w.heap.size w w' := by
  have hW : Hid (∀ W, Calls Tryz.prog 39 #[.int .i64 10] W fun e w' => e = .returned (.string ⟨#[99, 97, 112]⟩) ∧ Below W.heap.size W w') := Lib.hid (fun W => word39 10 W)
  have hln : (decDigits n).length ≤ 20 := dec_len _ hn
  have Hn := Lib.hid (fun W => flip_call (refdigits_any n W hn))
  clear hn
  generalize decDigits n = tnn at *
  go_enter Tryz.func40, Tryz.ntmps40
  go_wp2_with fail
  refine (hW.out _).mono ?_
  rintro e w1 ⟨rfl, hb1⟩
  have HB := C8.new w (.int .i64 10) (.int .i64 se) (.int .i64 st) (.string tn) (.int .u64 (n : Int)) (.int .i64 m) (.int .u64 (b : Int)) (v) 44
  have hz : (w.alloc (.cells #[.int .i64 10, .int .i64 se, .int .i64 st, .string tn, .int .u64 (n : Int), .int .i64 m, .int .u64 (b : Int), v] 44)).heap.size = w.heap.size + 1 := by simp
  have HR := C8.new (w.alloc (.cells #[.int .i64 10, .int .i64 se, .int .i64 st, .string tn, .int .u64 (n : Int), .int .i64 m, .int .u64 (b : Int), v] 44)) (.int .i64 0) (.int .i64 0) (.int .i64 0) (.string ⟨#[]⟩) (.int .u64 0) (.int .i64 0) (.int .u64 0) (.slice none 0 0) 44
  rw [hz] at HR
  have B1 := (HB.below ((Below.refl _ _).alloc (Nat.le_refl _) _)).below hb1
  have R1 := HR.below hb1
  have HB1 := Lib.hid B1
  have HR1 := Lib.hid R1
  have s1 := hb1.size
  have s2 : w.heap.size + 2 ≤ w1.heap.size := by simpa using s1
  have hB : Below w.heap.size w w1 := (((Below.refl _ _).alloc (Nat.le_refl _) _).alloc (by simp) _).trans (hb1.mono (by simp; omega))
  have BB := Lib.hid hB
  clear HB HR hz s1 hW hb1 hB B1 R1
  have HN := C8.new w1 (.int .i64 10) (.int .i64 0) (.int .i64 0) (.string ⟨#[]⟩) (.int .u64 0) (.int .i64 0) (.int .u64 0) (.slice none 0 0) 44
  have ba : Below w1.heap.size w1 (w1.alloc (.cells #[.int .i64 10, .int .i64 0, .int .i64 0, .string ⟨#[]⟩, .int .u64 0, .int .i64 0, .int .u64 0, .slice none 0 0] 44)) := (Below.refl _ _).alloc (Nat.le_refl _) _
  have HB2 := Lib.hid (HB1.out.below ba)
  have HR2 := Lib.hid (HR1.out.below ba)
  have HN2 := Lib.hid HN
  have hz1 : (w1.alloc (.cells #[.int .i64 10, .int .i64 0, .int .i64 0, .string ⟨#[]⟩, .int .u64 0, .int .i64 0, .int .u64 0, .slice none 0 0] 44)).heap.size = w1.heap.size + 1 := by simp
  have HB0 := Lib.hid (BB.out.trans (ba.mono (by omega)))

  obtain ⟨x0, x1, x2, x3, x4, x5, x6, x7, xf⟩ := HB1.out
  clear xf HN ba
  have l1 : w.heap.size < w1.heap.size := by omega
  have l2 : w.heap.size + 1 < w1.heap.size := by omega
  have n1 : w.heap.size ≠ w1.heap.size := by omega
  have n2 : w.heap.size + 1 ≠ w1.heap.size := by omega
  go_wp2_with fail
  clear x0 x1 x2 x3 x4 x5 x6 x7
  obtain ⟨z0, z1, z2, z3, z4, z5, z6, z7, zf⟩ := HB2.out
  have HZ1 := Lib.hid hz1
  clear zf hz1 HB1 HR1 BB
  generalize w1.alloc (.cells #[.int .i64 10, .int .i64 0, .int .i64 0, .string ⟨#[]⟩, .int .u64 0, .int .i64 0, .int .u64 0, .slice none 0 0] 44) = W at *
  go_quiet ((first | (go_at_call 25; exact Calls.quiet_of_same (Hn.out _))))
  all_goals
    have hb3 : Below W.heap.size W (W.drewN nq) := below_drewN (Below.refl _ _) nq
    clear z0 z1 z2 z3 z4 z5 z6 z7
    generalize W.drewN nq = w2 at *
    have B2 := HB2.out.below hb3
    have R2 := HR2.out.below hb3
    have N2 := HN2.out.below hb3
    have HR3 := Lib.hid R2
    have HB3 := Lib.hid hb3
    have s3 := hb3.size
    have s4 := HZ1.out
    have l3 : w1.heap.size < w2.heap.size := by omega
    obtain ⟨x0, x1, x2, x3, x4, x5, x6, x7, xf⟩ := B2
    obtain ⟨y0, y1, y2, y3, y4, y5, y6, y7, yf⟩ := R2
    obtain ⟨v0, v1, v2, v3, v4, v5, v6, v7, vf⟩ := N2
    have f0 := yf 0
    have f1 := yf 1
    have f2 := yf 2
    have f3 := yf 3
    have f4 := yf 4
    have f5 := yf 5
    have f6 := yf 6
    have f7 := yf 7
    have e3 := vf 3
    have e4 := vf 4
    have so := set_off8
    clear xf yf vf hb3 s4
    go_wp2_with fail
    go_region
    go_wp2
    refine bodyPost_ret (v := .tuple #[.string (S (wordN 10 ++ 32 :: ((L tn) ++ 32 :: tnn))), .agg #[.int .i64 10, .int .i64 0, .int .i64 0, .string tn, .int .u64 (n : Int), .int .i64 0, .int .u64 0, .slice none 0 0]]) ?_ rfl ⟨rfl, ?_⟩
    · have K := put8 (HR3.out.chg (bs := [w1.heap.size]) (((Chg.refl _ _).setCell (p := ⟨w1.heap.size, 3, none⟩) (by simp) (.string tn)).setCell (p := ⟨w1.heap.size, 4, none⟩) (by simp) (.int .u64 (n : Int))) (by simp; omega)) (.int .i64 10) (.int .i64 0) (.int .i64 0) (.string tn) (.int .u64 (n : Int)) (.int .i64 0) (.int .u64 0) (.slice none 0 0)
      obtain ⟨k0, k1, k2, k3, k4, k5, k6, k7, _⟩ := K
      have es : (⟨#[99, 97, 112]⟩ : ByteArray) ++ ⟨#[32]⟩ ++ tn ++ ⟨#[32]⟩ ++ S tnn = S (wordN 10 ++ 32 :: ((L tn) ++ 32 :: tnn)) := by
        rw [show tn = S (L tn) from (S_L tn).symm]
        show S [99, 97, 112] ++ S [32] ++ S (L tn) ++ S [32] ++ S tnn = _
        rw [append_S, append_S, append_S, append_S]
        simp [wordN]
      simp [results, Tryz.results40, go_sem, k0, k1, k2, k3, k4, k5, k6, k7, es]
    · have hB : Below w.heap.size w ((w2.setCell ⟨w1.heap.size, 3, none⟩ (.string tn)).setCell ⟨w1.heap.size, 4, none⟩ (.int .u64 (n : Int))) := (((HB0.out.trans (HB3.out.mono (by have := HZ1.out; omega)))).setCell (p := ⟨w1.heap.size, 3, none⟩) (by show w.heap.size ≤ w1.heap.size; omega) (.string tn)).setCell (p := ⟨w1.heap.size, 4, none⟩) (by show w.heap.size ≤ w1.heap.size; omega) (.int .u64 (n : Int))
      exact (below_put8 hB (by omega) _ _ _ _ _ _ _ _).drew

set_option maxRecDepth 100000 in
set_option maxHeartbeats 4000000 in
theorem line11 (se st : Int) (tn : ByteArray) (n : Nat) (m : Int) (b : Nat) (v : Value) (w : World) (htn : tn.size ≤ 1000000) (hb : b < 18446744073709551616) :
    Calls Tryz.prog 40 #[.agg #[.int .i64 11, .int .i64 se, .int .i64 st, .string tn, .int .u64 (n : Int), .int .i64 m, .int .u64 (b : Int), v]] w fun e w' => e = .returned (.tuple #[.string (S (wordN 11 ++ 32 :: (L tn ++ 32 :: decDigits b))), .agg #[.int .i64 11, .int .i64 0, .int .i64 0, .string tn, .int .u64 0, .int .i64 0, .int .u64 (b : Int), .slice none 0 0]]) ∧ Below w.heap.size w w' := by
  have hW : Hid (∀ W, Calls Tryz.prog 39 #[.int .i64 11] W fun e w' => e = .returned (.string ⟨#[112, 114, 105, 99, 101]⟩) ∧ Below W.heap.size W w') := Lib.hid (fun W => word39 11 W)
  have hlb : (decDigits b).length ≤ 20 := dec_len _ hb
  have Hb := Lib.hid (fun W => flip_call (refdigits_any b W hb))
  clear hb
  generalize decDigits b = tb at *
  go_enter Tryz.func40, Tryz.ntmps40
  go_wp2_with fail
  refine (hW.out _).mono ?_
  rintro e w1 ⟨rfl, hb1⟩
  have HB := C8.new w (.int .i64 11) (.int .i64 se) (.int .i64 st) (.string tn) (.int .u64 (n : Int)) (.int .i64 m) (.int .u64 (b : Int)) (v) 44
  have hz : (w.alloc (.cells #[.int .i64 11, .int .i64 se, .int .i64 st, .string tn, .int .u64 (n : Int), .int .i64 m, .int .u64 (b : Int), v] 44)).heap.size = w.heap.size + 1 := by simp
  have HR := C8.new (w.alloc (.cells #[.int .i64 11, .int .i64 se, .int .i64 st, .string tn, .int .u64 (n : Int), .int .i64 m, .int .u64 (b : Int), v] 44)) (.int .i64 0) (.int .i64 0) (.int .i64 0) (.string ⟨#[]⟩) (.int .u64 0) (.int .i64 0) (.int .u64 0) (.slice none 0 0) 44
  rw [hz] at HR
  have B1 := (HB.below ((Below.refl _ _).alloc (Nat.le_refl _) _)).below hb1
  have R1 := HR.below hb1
  have HB1 := Lib.hid B1
  have HR1 := Lib.hid R1
  have s1 := hb1.size
  have s2 : w.heap.size + 2 ≤ w1.heap.size := by simpa using s1
  have hB : Below w.heap.size w w1 := (((Below.refl _ _).alloc (Nat.le_refl _) _).alloc (by simp) _).trans (hb1.mono (by simp; omega))
  have BB := Lib.hid hB
  clear HB HR hz s1 hW hb1 hB B1 R1
  have HN := C8.new w1 (.int .i64 11) (.int .i64 0) (.int .i64 0) (.string ⟨#[]⟩) (.int .u64 0) (.int .i64 0) (.int .u64 0) (.slice none 0 0) 44
  have ba : Below w1.heap.size w1 (w1.alloc (.cells #[.int .i64 11, .int .i64 0, .int .i64 0, .string ⟨#[]⟩, .int .u64 0, .int .i64 0, .int .u64 0, .slice none 0 0] 44)) := (Below.refl _ _).alloc (Nat.le_refl _) _
  have HB2 := Lib.hid (HB1.out.below ba)
  have HR2 := Lib.hid (HR1.out.below ba)
  have HN2 := Lib.hid HN
  have hz1 : (w1.alloc (.cells #[.int .i64 11, .int .i64 0, .int .i64 0, .string ⟨#[]⟩, .int .u64 0, .int .i64 0, .int .u64 0, .slice none 0 0] 44)).heap.size = w1.heap.size + 1 := by simp
  have HB0 := Lib.hid (BB.out.trans (ba.mono (by omega)))

  obtain ⟨x0, x1, x2, x3, x4, x5, x6, x7, xf⟩ := HB1.out
  clear xf HN ba
  have l1 : w.heap.size < w1.heap.size := by omega
  have l2 : w.heap.size + 1 < w1.heap.size := by omega
  have n1 : w.heap.size ≠ w1.heap.size := by omega
  have n2 : w.heap.size + 1 ≠ w1.heap.size := by omega
  go_wp2_with fail
  clear x0 x1 x2 x3 x4 x5 x6 x7
  obtain ⟨z0, z1, z2, z3, z4, z5, z6, z7, zf⟩ := HB2.out
  have HZ1 := Lib.hid hz1
  clear zf hz1 HB1 HR1 BB
  generalize w1.alloc (.cells #[.int .i64 11, .int .i64 0, .int .i64 0, .string ⟨#[]⟩, .int .u64 0, .int .i64 0, .int .u64 0, .slice none 0 0] 44) = W at *
  go_quiet ((first | (go_at_call 25; exact Calls.quiet_of_same (Hb.out _))))
  all_goals
    have hb3 : Below W.heap.size W (W.drewN nq) := below_drewN (Below.refl _ _) nq
    clear z0 z1 z2 z3 z4 z5 z6 z7
    generalize W.drewN nq = w2 at *
    have B2 := HB2.out.below hb3
    have R2 := HR2.out.below hb3
    have N2 := HN2.out.below hb3
    have HR3 := Lib.hid R2
    have HB3 := Lib.hid hb3
    have s3 := hb3.size
    have s4 := HZ1.out
    have l3 : w1.heap.size < w2.heap.size := by omega
    obtain ⟨x0, x1, x2, x3, x4, x5, x6, x7, xf⟩ := B2
    obtain ⟨y0, y1, y2, y3, y4, y5, y6, y7, yf⟩ := R2
    obtain ⟨v0, v1, v2, v3, v4, v5, v6, v7, vf⟩ := N2
    have f0 := yf 0
    have f1 := yf 1
    have f2 := yf 2
    have f3 := yf 3
    have f4 := yf 4
    have f5 := yf 5
    have f6 := yf 6
    have f7 := yf 7
    have e3 := vf 3
    have e6 := vf 6
    have so := set_off8
    clear xf yf vf hb3 s4
    go_wp2_with fail
    go_region
    go_wp2
    refine bodyPost_ret (v := .tuple #[.string (S (wordN 11 ++ 32 :: ((L tn) ++ 32 :: tb))), .agg #[.int .i64 11, .int .i64 0, .int .i64 0, .string tn, .int .u64 0, .int .i64 0, .int .u64 (b : Int), .slice none 0 0]]) ?_ rfl ⟨rfl, ?_⟩
    · have K := put8 (HR3.out.chg (bs := [w1.heap.size]) (((Chg.refl _ _).setCell (p := ⟨w1.heap.size, 3, none⟩) (by simp) (.string tn)).setCell (p := ⟨w1.heap.size, 6, none⟩) (by simp) (.int .u64 (b : Int))) (by simp; omega)) (.int .i64 11) (.int .i64 0) (.int .i64 0) (.string tn) (.int .u64 0) (.int .i64 0) (.int .u64 (b : Int)) (.slice none 0 0)
      obtain ⟨k0, k1, k2, k3, k4, k5, k6, k7, _⟩ := K
      have es : (⟨#[112, 114, 105, 99, 101]⟩ : ByteArray) ++ ⟨#[32]⟩ ++ tn ++ ⟨#[32]⟩ ++ S tb = S (wordN 11 ++ 32 :: ((L tn) ++ 32 :: tb)) := by
        rw [show tn = S (L tn) from (S_L tn).symm]
        show S [112, 114, 105, 99, 101] ++ S [32] ++ S (L tn) ++ S [32] ++ S tb = _
        rw [append_S, append_S, append_S, append_S]
        simp [wordN]
      simp [results, Tryz.results40, go_sem, k0, k1, k2, k3, k4, k5, k6, k7, es]
    · have hB : Below w.heap.size w ((w2.setCell ⟨w1.heap.size, 3, none⟩ (.string tn)).setCell ⟨w1.heap.size, 6, none⟩ (.int .u64 (b : Int))) := (((HB0.out.trans (HB3.out.mono (by have := HZ1.out; omega)))).setCell (p := ⟨w1.heap.size, 3, none⟩) (by show w.heap.size ≤ w1.heap.size; omega) (.string tn)).setCell (p := ⟨w1.heap.size, 6, none⟩) (by show w.heap.size ≤ w1.heap.size; omega) (.int .u64 (b : Int))
      exact (below_put8 hB (by omega) _ _ _ _ _ _ _ _).drew

set_option maxRecDepth 100000 in
set_option maxHeartbeats 4000000 in
theorem line13 (se st : Int) (tn : ByteArray) (n : Nat) (m : Int) (b : Nat) (v : Value) (w : World) (htn : tn.size ≤ 1000000) (hn : n < 18446744073709551616) :
    Calls Tryz.prog 40 #[.agg #[.int .i64 13, .int .i64 se, .int .i64 st, .string tn, .int .u64 (n : Int), .int .i64 m, .int .u64 (b : Int), v]] w fun e w' => e = .returned (.tuple #[.string (S (wordN 13 ++ 32 :: (L tn ++ 32 :: decDigits n))), .agg #[.int .i64 13, .int .i64 0, .int .i64 0, .string tn, .int .u64 (n : Int), .int .i64 0, .int .u64 0, .slice none 0 0]]) ∧ Below w.heap.size w w' := by
  have hW : Hid (∀ W, Calls Tryz.prog 39 #[.int .i64 13] W fun e w' => e = .returned (.string ⟨#[101, 120, 112, 111, 114, 116]⟩) ∧ Below W.heap.size W w') := Lib.hid (fun W => word39 13 W)
  have hln : (decDigits n).length ≤ 20 := dec_len _ hn
  have Hn := Lib.hid (fun W => flip_call (refdigits_any n W hn))
  clear hn
  generalize decDigits n = tnn at *
  go_enter Tryz.func40, Tryz.ntmps40
  go_wp2_with fail
  refine (hW.out _).mono ?_
  rintro e w1 ⟨rfl, hb1⟩
  have HB := C8.new w (.int .i64 13) (.int .i64 se) (.int .i64 st) (.string tn) (.int .u64 (n : Int)) (.int .i64 m) (.int .u64 (b : Int)) (v) 44
  have hz : (w.alloc (.cells #[.int .i64 13, .int .i64 se, .int .i64 st, .string tn, .int .u64 (n : Int), .int .i64 m, .int .u64 (b : Int), v] 44)).heap.size = w.heap.size + 1 := by simp
  have HR := C8.new (w.alloc (.cells #[.int .i64 13, .int .i64 se, .int .i64 st, .string tn, .int .u64 (n : Int), .int .i64 m, .int .u64 (b : Int), v] 44)) (.int .i64 0) (.int .i64 0) (.int .i64 0) (.string ⟨#[]⟩) (.int .u64 0) (.int .i64 0) (.int .u64 0) (.slice none 0 0) 44
  rw [hz] at HR
  have B1 := (HB.below ((Below.refl _ _).alloc (Nat.le_refl _) _)).below hb1
  have R1 := HR.below hb1
  have HB1 := Lib.hid B1
  have HR1 := Lib.hid R1
  have s1 := hb1.size
  have s2 : w.heap.size + 2 ≤ w1.heap.size := by simpa using s1
  have hB : Below w.heap.size w w1 := (((Below.refl _ _).alloc (Nat.le_refl _) _).alloc (by simp) _).trans (hb1.mono (by simp; omega))
  have BB := Lib.hid hB
  clear HB HR hz s1 hW hb1 hB B1 R1
  have HN := C8.new w1 (.int .i64 13) (.int .i64 0) (.int .i64 0) (.string ⟨#[]⟩) (.int .u64 0) (.int .i64 0) (.int .u64 0) (.slice none 0 0) 44
  have ba : Below w1.heap.size w1 (w1.alloc (.cells #[.int .i64 13, .int .i64 0, .int .i64 0, .string ⟨#[]⟩, .int .u64 0, .int .i64 0, .int .u64 0, .slice none 0 0] 44)) := (Below.refl _ _).alloc (Nat.le_refl _) _
  have HB2 := Lib.hid (HB1.out.below ba)
  have HR2 := Lib.hid (HR1.out.below ba)
  have HN2 := Lib.hid HN
  have hz1 : (w1.alloc (.cells #[.int .i64 13, .int .i64 0, .int .i64 0, .string ⟨#[]⟩, .int .u64 0, .int .i64 0, .int .u64 0, .slice none 0 0] 44)).heap.size = w1.heap.size + 1 := by simp
  have HB0 := Lib.hid (BB.out.trans (ba.mono (by omega)))

  obtain ⟨x0, x1, x2, x3, x4, x5, x6, x7, xf⟩ := HB1.out
  clear xf HN ba
  have l1 : w.heap.size < w1.heap.size := by omega
  have l2 : w.heap.size + 1 < w1.heap.size := by omega
  have n1 : w.heap.size ≠ w1.heap.size := by omega
  have n2 : w.heap.size + 1 ≠ w1.heap.size := by omega
  go_wp2_with fail
  clear x0 x1 x2 x3 x4 x5 x6 x7
  obtain ⟨z0, z1, z2, z3, z4, z5, z6, z7, zf⟩ := HB2.out
  have HZ1 := Lib.hid hz1
  clear zf hz1 HB1 HR1 BB
  generalize w1.alloc (.cells #[.int .i64 13, .int .i64 0, .int .i64 0, .string ⟨#[]⟩, .int .u64 0, .int .i64 0, .int .u64 0, .slice none 0 0] 44) = W at *
  go_quiet ((first | (go_at_call 25; exact Calls.quiet_of_same (Hn.out _))))
  all_goals
    have hb3 : Below W.heap.size W (W.drewN nq) := below_drewN (Below.refl _ _) nq
    clear z0 z1 z2 z3 z4 z5 z6 z7
    generalize W.drewN nq = w2 at *
    have B2 := HB2.out.below hb3
    have R2 := HR2.out.below hb3
    have N2 := HN2.out.below hb3
    have HR3 := Lib.hid R2
    have HB3 := Lib.hid hb3
    have s3 := hb3.size
    have s4 := HZ1.out
    have l3 : w1.heap.size < w2.heap.size := by omega
    obtain ⟨x0, x1, x2, x3, x4, x5, x6, x7, xf⟩ := B2
    obtain ⟨y0, y1, y2, y3, y4, y5, y6, y7, yf⟩ := R2
    obtain ⟨v0, v1, v2, v3, v4, v5, v6, v7, vf⟩ := N2
    have f0 := yf 0
    have f1 := yf 1
    have f2 := yf 2
    have f3 := yf 3
    have f4 := yf 4
    have f5 := yf 5
    have f6 := yf 6
    have f7 := yf 7
    have e3 := vf 3
    have e4 := vf 4
    have so := set_off8
    clear xf yf vf hb3 s4
    go_wp2_with fail
    go_region
    go_wp2
    refine bodyPost_ret (v := .tuple #[.string (S (wordN 13 ++ 32 :: ((L tn) ++ 32 :: tnn))), .agg #[.int .i64 13, .int .i64 0, .int .i64 0, .string tn, .int .u64 (n : Int), .int .i64 0, .int .u64 0, .slice none 0 0]]) ?_ rfl ⟨rfl, ?_⟩
    · have K := put8 (HR3.out.chg (bs := [w1.heap.size]) (((Chg.refl _ _).setCell (p := ⟨w1.heap.size, 3, none⟩) (by simp) (.string tn)).setCell (p := ⟨w1.heap.size, 4, none⟩) (by simp) (.int .u64 (n : Int))) (by simp; omega)) (.int .i64 13) (.int .i64 0) (.int .i64 0) (.string tn) (.int .u64 (n : Int)) (.int .i64 0) (.int .u64 0) (.slice none 0 0)
      obtain ⟨k0, k1, k2, k3, k4, k5, k6, k7, _⟩ := K
      have es : (⟨#[101, 120, 112, 111, 114, 116]⟩ : ByteArray) ++ ⟨#[32]⟩ ++ tn ++ ⟨#[32]⟩ ++ S tnn = S (wordN 13 ++ 32 :: ((L tn) ++ 32 :: tnn)) := by
        rw [show tn = S (L tn) from (S_L tn).symm]
        show S [101, 120, 112, 111, 114, 116] ++ S [32] ++ S (L tn) ++ S [32] ++ S tnn = _
        rw [append_S, append_S, append_S, append_S]
        simp [wordN]
      simp [results, Tryz.results40, go_sem, k0, k1, k2, k3, k4, k5, k6, k7, es]
    · have hB : Below w.heap.size w ((w2.setCell ⟨w1.heap.size, 3, none⟩ (.string tn)).setCell ⟨w1.heap.size, 4, none⟩ (.int .u64 (n : Int))) := (((HB0.out.trans (HB3.out.mono (by have := HZ1.out; omega)))).setCell (p := ⟨w1.heap.size, 3, none⟩) (by show w.heap.size ≤ w1.heap.size; omega) (.string tn)).setCell (p := ⟨w1.heap.size, 4, none⟩) (by show w.heap.size ≤ w1.heap.size; omega) (.int .u64 (n : Int))
      exact (below_put8 hB (by omega) _ _ _ _ _ _ _ _).drew

set_option maxRecDepth 100000 in
set_option maxHeartbeats 4000000 in
theorem line15 (se st : Int) (tn : ByteArray) (n : Nat) (m : Int) (b : Nat) (v : Value) (w : World) (hn : n < 18446744073709551616) (hm0 : 0 ≤ m) (hm1 : m ≤ 9223372036854775807) :
    Calls Tryz.prog 40 #[.agg #[.int .i64 15, .int .i64 se, .int .i64 st, .string tn, .int .u64 (n : Int), .int .i64 m, .int .u64 (b : Int), v]] w fun e w' => e = .returned (.tuple #[.string (S (wordN 15 ++ 32 :: (decDigits n ++ 32 :: decDigits m.toNat))), .agg #[.int .i64 15, .int .i64 0, .int .i64 0, .string ⟨#[]⟩, .int .u64 (n : Int), .int .i64 m, .int .u64 0, .slice none 0 0]]) ∧ Below w.heap.size w w' := by
  have hW : Hid (∀ W, Calls Tryz.prog 39 #[.int .i64 15] W fun e w' => e = .returned (.string ⟨#[97, 114, 109]⟩) ∧ Below W.heap.size W w') := Lib.hid (fun W => word39 15 W)
  have hln : (decDigits n).length ≤ 20 := dec_len _ hn
  have Hn := Lib.hid (fun W => flip_call (refdigits_any n W hn))
  clear hn
  generalize decDigits n = tnn at *
  have hlm : (decDigits m.toNat).length ≤ 20 := dec_len _ (by omega)
  have Hm := Lib.hid (fun W => flip_call (digits39 m W hm0 hm1))
  generalize decDigits m.toNat = tm at *
  go_enter Tryz.func40, Tryz.ntmps40
  go_wp2_with fail
  refine (hW.out _).mono ?_
  rintro e w1 ⟨rfl, hb1⟩
  have HB := C8.new w (.int .i64 15) (.int .i64 se) (.int .i64 st) (.string tn) (.int .u64 (n : Int)) (.int .i64 m) (.int .u64 (b : Int)) (v) 44
  have hz : (w.alloc (.cells #[.int .i64 15, .int .i64 se, .int .i64 st, .string tn, .int .u64 (n : Int), .int .i64 m, .int .u64 (b : Int), v] 44)).heap.size = w.heap.size + 1 := by simp
  have HR := C8.new (w.alloc (.cells #[.int .i64 15, .int .i64 se, .int .i64 st, .string tn, .int .u64 (n : Int), .int .i64 m, .int .u64 (b : Int), v] 44)) (.int .i64 0) (.int .i64 0) (.int .i64 0) (.string ⟨#[]⟩) (.int .u64 0) (.int .i64 0) (.int .u64 0) (.slice none 0 0) 44
  rw [hz] at HR
  have B1 := (HB.below ((Below.refl _ _).alloc (Nat.le_refl _) _)).below hb1
  have R1 := HR.below hb1
  have HB1 := Lib.hid B1
  have HR1 := Lib.hid R1
  have s1 := hb1.size
  have s2 : w.heap.size + 2 ≤ w1.heap.size := by simpa using s1
  have hB : Below w.heap.size w w1 := (((Below.refl _ _).alloc (Nat.le_refl _) _).alloc (by simp) _).trans (hb1.mono (by simp; omega))
  have BB := Lib.hid hB
  clear HB HR hz s1 hW hb1 hB B1 R1
  have HN := C8.new w1 (.int .i64 15) (.int .i64 0) (.int .i64 0) (.string ⟨#[]⟩) (.int .u64 0) (.int .i64 0) (.int .u64 0) (.slice none 0 0) 44
  have ba : Below w1.heap.size w1 (w1.alloc (.cells #[.int .i64 15, .int .i64 0, .int .i64 0, .string ⟨#[]⟩, .int .u64 0, .int .i64 0, .int .u64 0, .slice none 0 0] 44)) := (Below.refl _ _).alloc (Nat.le_refl _) _
  have HB2 := Lib.hid (HB1.out.below ba)
  have HR2 := Lib.hid (HR1.out.below ba)
  have HN2 := Lib.hid HN
  have hz1 : (w1.alloc (.cells #[.int .i64 15, .int .i64 0, .int .i64 0, .string ⟨#[]⟩, .int .u64 0, .int .i64 0, .int .u64 0, .slice none 0 0] 44)).heap.size = w1.heap.size + 1 := by simp
  have HB0 := Lib.hid (BB.out.trans (ba.mono (by omega)))

  obtain ⟨x0, x1, x2, x3, x4, x5, x6, x7, xf⟩ := HB1.out
  clear xf HN ba
  have l1 : w.heap.size < w1.heap.size := by omega
  have l2 : w.heap.size + 1 < w1.heap.size := by omega
  have n1 : w.heap.size ≠ w1.heap.size := by omega
  have n2 : w.heap.size + 1 ≠ w1.heap.size := by omega
  go_wp2_with fail
  clear x0 x1 x2 x3 x4 x5 x6 x7
  obtain ⟨z0, z1, z2, z3, z4, z5, z6, z7, zf⟩ := HB2.out
  have HZ1 := Lib.hid hz1
  clear zf hz1 HB1 HR1 BB
  generalize w1.alloc (.cells #[.int .i64 15, .int .i64 0, .int .i64 0, .string ⟨#[]⟩, .int .u64 0, .int .i64 0, .int .u64 0, .slice none 0 0] 44) = W at *
  go_quiet ((first | (go_at_call 25; exact Calls.quiet_of_same (Hn.out _)) | (go_at_call 61; exact Calls.quiet_of_same (Hm.out _))))
  all_goals
    have hb3 : Below W.heap.size W (W.drewN nq) := below_drewN (Below.refl _ _) nq
    clear z0 z1 z2 z3 z4 z5 z6 z7
    generalize W.drewN nq = w2 at *
    have B2 := HB2.out.below hb3
    have R2 := HR2.out.below hb3
    have N2 := HN2.out.below hb3
    have HR3 := Lib.hid R2
    have HB3 := Lib.hid hb3
    have s3 := hb3.size
    have s4 := HZ1.out
    have l3 : w1.heap.size < w2.heap.size := by omega
    obtain ⟨x0, x1, x2, x3, x4, x5, x6, x7, xf⟩ := B2
    obtain ⟨y0, y1, y2, y3, y4, y5, y6, y7, yf⟩ := R2
    obtain ⟨v0, v1, v2, v3, v4, v5, v6, v7, vf⟩ := N2
    have f0 := yf 0
    have f1 := yf 1
    have f2 := yf 2
    have f3 := yf 3
    have f4 := yf 4
    have f5 := yf 5
    have f6 := yf 6
    have f7 := yf 7
    have e4 := vf 4
    have e5 := vf 5
    have so := set_off8
    clear xf yf vf hb3 s4
    go_wp2_with fail
    go_region
    go_wp2
    refine bodyPost_ret (v := .tuple #[.string (S (wordN 15 ++ 32 :: (tnn ++ 32 :: tm))), .agg #[.int .i64 15, .int .i64 0, .int .i64 0, .string ⟨#[]⟩, .int .u64 (n : Int), .int .i64 m, .int .u64 0, .slice none 0 0]]) ?_ rfl ⟨rfl, ?_⟩
    · have K := put8 (HR3.out.chg (bs := [w1.heap.size]) (((Chg.refl _ _).setCell (p := ⟨w1.heap.size, 4, none⟩) (by simp) (.int .u64 (n : Int))).setCell (p := ⟨w1.heap.size, 5, none⟩) (by simp) (.int .i64 m)) (by simp; omega)) (.int .i64 15) (.int .i64 0) (.int .i64 0) (.string ⟨#[]⟩) (.int .u64 (n : Int)) (.int .i64 m) (.int .u64 0) (.slice none 0 0)
      obtain ⟨k0, k1, k2, k3, k4, k5, k6, k7, _⟩ := K
      have es : (⟨#[97, 114, 109]⟩ : ByteArray) ++ ⟨#[32]⟩ ++ S tnn ++ ⟨#[32]⟩ ++ S tm = S (wordN 15 ++ 32 :: (tnn ++ 32 :: tm)) := by
        skip
        show S [97, 114, 109] ++ S [32] ++ S tnn ++ S [32] ++ S tm = _
        rw [append_S, append_S, append_S, append_S]
        simp [wordN]
      simp [results, Tryz.results40, go_sem, k0, k1, k2, k3, k4, k5, k6, k7, es]
    · have hB : Below w.heap.size w ((w2.setCell ⟨w1.heap.size, 4, none⟩ (.int .u64 (n : Int))).setCell ⟨w1.heap.size, 5, none⟩ (.int .i64 m)) := (((HB0.out.trans (HB3.out.mono (by have := HZ1.out; omega)))).setCell (p := ⟨w1.heap.size, 4, none⟩) (by show w.heap.size ≤ w1.heap.size; omega) (.int .u64 (n : Int))).setCell (p := ⟨w1.heap.size, 5, none⟩) (by show w.heap.size ≤ w1.heap.size; omega) (.int .i64 m)
      exact (below_put8 hB (by omega) _ _ _ _ _ _ _ _).drew
end Go.Proofs.YtinabbdecmjcpaaGreatDoor.Ev
