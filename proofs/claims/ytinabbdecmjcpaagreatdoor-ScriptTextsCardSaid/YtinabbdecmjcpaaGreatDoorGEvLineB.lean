/- The contract of the reference's line of layer 39, kind by kind. -/
import Derived.Test.YtinabbdecmjcpaaGreatDoorGRefHexQ
namespace Go.Proofs.YtinabbdecmjcpaaGreatDoor.Ev
open Go.RowKit Go.Proofs.YtinabbdecmjcpaaGreatDoor Go.Proofs.YtinabbdecmjcpaaGreatDoor.Plain Go.Proofs.YtinabbdecmjcpaaGreatDoor.Words Go.Proofs.YtinabbdecmjcpaaGreatDoor.Named Go.Proofs.YtinabbdecmjcpaaGreatDoor.Hex Go.Proofs.YtinabbdecmjcpaaGreatDoor.Number
open Go.Lib (decDigits)
set_option linter.unusedVariables false

set_option maxRecDepth 100000 in
set_option maxHeartbeats 4000000 in
theorem line2 (se st : Int) (tn : ByteArray) (n : Nat) (m : Int) (b : Nat) (v : Value) (d : List UInt8) (w : World) (hse0 : 0 ≤ se) (hse1 : se ≤ 9223372036854775807) (hd : d.length ≤ 1000000) (hv : BRow w v d) :
    Calls Tryz.prog 40 #[.agg #[.int .i64 2, .int .i64 se, .int .i64 st, .string tn, .int .u64 (n : Int), .int .i64 m, .int .u64 (b : Int), v]] w fun e w' => e = .returned (.tuple #[.string (S (wordN 2 ++ 32 :: (decDigits se.toNat ++ 32 :: hexOf d))), .agg #[.int .i64 2, .int .i64 se, .int .i64 0, .string ⟨#[]⟩, .int .u64 0, .int .i64 0, .int .u64 0, v]]) ∧ Below w.heap.size w w' := by
  obtain ⟨av, cv, rfl⟩ := brow_form hv
  have hW : Hid (∀ W, Calls Tryz.prog 39 #[.int .i64 2] W fun e w' => e = .returned (.string ⟨#[99, 111, 110, 110, 101, 99, 116]⟩) ∧ Below W.heap.size W w') := Lib.hid (fun W => word39 2 W)
  have hlse : (decDigits se.toNat).length ≤ 20 := dec_len _ (by omega)
  have Hse := Lib.hid (fun W => flip_call (digits39 se W hse0 hse1))
  generalize decDigits se.toNat = tse at *
  have hld : (hexOf d).length ≤ 2000001 := by unfold hexOf; split <;> simp [hexs_len]; omega
  have Hd := Lib.hid (fun W (h : BRow W (.slice av d.length cv) d) => refhexq_any d _ W (by omega) h)
  generalize hexOf d = td at *
  have HV := Lib.hid hv
  clear hv
  go_enter Tryz.func40, Tryz.ntmps40
  go_wp2_with fail
  refine (hW.out _).mono ?_
  rintro e w1 ⟨rfl, hb1⟩
  have HB := C8.new w (.int .i64 2) (.int .i64 se) (.int .i64 st) (.string tn) (.int .u64 (n : Int)) (.int .i64 m) (.int .u64 (b : Int)) (.slice av d.length cv) 44
  have hz : (w.alloc (.cells #[.int .i64 2, .int .i64 se, .int .i64 st, .string tn, .int .u64 (n : Int), .int .i64 m, .int .u64 (b : Int), .slice av d.length cv] 44)).heap.size = w.heap.size + 1 := by simp
  have HR := C8.new (w.alloc (.cells #[.int .i64 2, .int .i64 se, .int .i64 st, .string tn, .int .u64 (n : Int), .int .i64 m, .int .u64 (b : Int), .slice av d.length cv] 44)) (.int .i64 0) (.int .i64 0) (.int .i64 0) (.string ⟨#[]⟩) (.int .u64 0) (.int .i64 0) (.int .u64 0) (.slice none 0 0) 44
  rw [hz] at HR
  have B1 := (HB.below ((Below.refl _ _).alloc (Nat.le_refl _) _)).below hb1
  have R1 := HR.below hb1
  have HB1 := Lib.hid B1
  have HR1 := Lib.hid R1
  have s1 := hb1.size
  have s2 : w.heap.size + 2 ≤ w1.heap.size := by simpa using s1
  have hB : Below w.heap.size w w1 := (((Below.refl _ _).alloc (Nat.le_refl _) _).alloc (by simp) _).trans (hb1.mono (by simp; omega))
  have BB := Lib.hid hB
  clear HB HR hz s1 hW hb1 hB B1 R1
  have HN := C8.new w1 (.int .i64 2) (.int .i64 0) (.int .i64 0) (.string ⟨#[]⟩) (.int .u64 0) (.int .i64 0) (.int .u64 0) (.slice none 0 0) 44
  have ba : Below w1.heap.size w1 (w1.alloc (.cells #[.int .i64 2, .int .i64 0, .int .i64 0, .string ⟨#[]⟩, .int .u64 0, .int .i64 0, .int .u64 0, .slice none 0 0] 44)) := (Below.refl _ _).alloc (Nat.le_refl _) _
  have HB2 := Lib.hid (HB1.out.below ba)
  have HR2 := Lib.hid (HR1.out.below ba)
  have HN2 := Lib.hid HN
  have hz1 : (w1.alloc (.cells #[.int .i64 2, .int .i64 0, .int .i64 0, .string ⟨#[]⟩, .int .u64 0, .int .i64 0, .int .u64 0, .slice none 0 0] 44)).heap.size = w1.heap.size + 1 := by simp
  have HB0 := Lib.hid (BB.out.trans (ba.mono (by omega)))
  have HVb := Lib.hid (brow_below HB0.out HV.out)
  obtain ⟨x0, x1, x2, x3, x4, x5, x6, x7, xf⟩ := HB1.out
  clear xf HN ba
  have l1 : w.heap.size < w1.heap.size := by omega
  have l2 : w.heap.size + 1 < w1.heap.size := by omega
  have n1 : w.heap.size ≠ w1.heap.size := by omega
  have n2 : w.heap.size + 1 ≠ w1.heap.size := by omega
  go_wp2_with fail
  clear x0 x1 x2 x3 x4 x5 x6 x7
  obtain ⟨z0, z1, z2, z3, z4, z5, z6, z7, zf⟩ := HB2.out
  have HZ1 := Lib.hid hz1
  clear zf hz1 HB1 HR1 BB
  generalize w1.alloc (.cells #[.int .i64 2, .int .i64 0, .int .i64 0, .string ⟨#[]⟩, .int .u64 0, .int .i64 0, .int .u64 0, .slice none 0 0] 44) = W at *
  go_quiet ((first | (go_at_call 61; exact Calls.quiet_of_same (Hse.out _)) | (go_at_call 24; exact Calls.quiet_of (Hd.out _ (brow_drewN HVb.out _)))))
  all_goals
    have hb3 : Below W.heap.size W (W.drewN nq) := below_drewN (Below.refl _ _) nq
    clear z0 z1 z2 z3 z4 z5 z6 z7
    generalize W.drewN nq = w2 at *
    have B2 := HB2.out.below hb3
    have R2 := HR2.out.below hb3
    have N2 := HN2.out.below hb3
    have HR3 := Lib.hid R2
    have HB3 := Lib.hid hb3
    have s3 := hb3.size
    have s4 := HZ1.out
    have l3 : w1.heap.size < w2.heap.size := by omega
    obtain ⟨x0, x1, x2, x3, x4, x5, x6, x7, xf⟩ := B2
    obtain ⟨y0, y1, y2, y3, y4, y5, y6, y7, yf⟩ := R2
    obtain ⟨v0, v1, v2, v3, v4, v5, v6, v7, vf⟩ := N2
    have f0 := yf 0
    have f1 := yf 1
    have f2 := yf 2
    have f3 := yf 3
    have f4 := yf 4
    have f5 := yf 5
    have f6 := yf 6
    have f7 := yf 7
    have e1 := vf 1
    have e7 := vf 7
    have so := set_off8
    clear xf yf vf hb3 s4
    go_wp2_with fail
    go_region
    go_wp2
    refine bodyPost_ret (v := .tuple #[.string (S (wordN 2 ++ 32 :: (tse ++ 32 :: td))), .agg #[.int .i64 2, .int .i64 se, .int .i64 0, .string ⟨#[]⟩, .int .u64 0, .int .i64 0, .int .u64 0, .slice av d.length cv]]) ?_ rfl ⟨rfl, ?_⟩
    · have K := put8 (HR3.out.chg (bs := [w1.heap.size]) (((Chg.refl _ _).setCell (p := ⟨w1.heap.size, 1, none⟩) (by simp) (.int .i64 se)).setCell (p := ⟨w1.heap.size, 7, none⟩) (by simp) (.slice av d.length cv)) (by simp; omega)) (.int .i64 2) (.int .i64 se) (.int .i64 0) (.string ⟨#[]⟩) (.int .u64 0) (.int .i64 0) (.int .u64 0) (.slice av d.length cv)
      obtain ⟨k0, k1, k2, k3, k4, k5, k6, k7, _⟩ := K
      have es : (⟨#[99, 111, 110, 110, 101, 99, 116]⟩ : ByteArray) ++ ⟨#[32]⟩ ++ S tse ++ ⟨#[32]⟩ ++ S td = S (wordN 2 ++ 32 :: (tse ++ 32 :: td)) := by
        skip
        show S [99, 111, 110, 110, 101, 99, 116] ++ S [32] ++ S tse ++ S [32] ++ S td = _
        rw [append_S, append_S, append_S, append_S]
        simp [wordN]
      simp [results, Tryz.results40, go_sem, k0, k1, k2, k3, k4, k5, k6, k7, es]
    · have hB : Below w.heap.size w ((w2.setCell ⟨w1.heap.size, 1, none⟩ (.int .i64 se)).setCell ⟨w1.heap.size, 7, none⟩ (.slice av d.length cv)) := (((HB0.out.trans (HB3.out.mono (by have := HZ1.out; omega)))).setCell (p := ⟨w1.heap.size, 1, none⟩) (by show w.heap.size ≤ w1.heap.size; omega) (.int .i64 se)).setCell (p := ⟨w1.heap.size, 7, none⟩) (by show w.heap.size ≤ w1.heap.size; omega) (.slice av d.length cv)
      exact (below_put8 hB (by omega) _ _ _ _ _ _ _ _).drew

set_option maxRecDepth 100000 in
set_option maxHeartbeats 4000000 in
theorem line3 (se st : Int) (tn : ByteArray) (n : Nat) (m : Int) (b : Nat) (v : Value) (d : List UInt8) (w : World) (hse0 : 0 ≤ se) (hse1 : se ≤ 9223372036854775807) (hd : d.length ≤ 1000000) (hv : BRow w v d) :
    Calls Tryz.prog 40 #[.agg #[.int .i64 3, .int .i64 se, .int .i64 st, .string tn, .int .u64 (n : Int), .int .i64 m, .int .u64 (b : Int), v]] w fun e w' => e = .returned (.tuple #[.string (S (wordN 3 ++ 32 :: (decDigits se.toNat ++ 32 :: hexOf d))), .agg #[.int .i64 3, .int .i64 se, .int .i64 0, .string ⟨#[]⟩, .int .u64 0, .int .i64 0, .int .u64 0, v]]) ∧ Below w.heap.size w w' := by
  obtain ⟨av, cv, rfl⟩ := brow_form hv
  have hW : Hid (∀ W, Calls Tryz.prog 39 #[.int .i64 3] W fun e w' => e = .returned (.string ⟨#[98, 121, 116, 101, 115]⟩) ∧ Below W.heap.size W w') := Lib.hid (fun W => word39 3 W)
  have hlse : (decDigits se.toNat).length ≤ 20 := dec_len _ (by omega)
  have Hse := Lib.hid (fun W => flip_call (digits39 se W hse0 hse1))
  generalize decDigits se.toNat = tse at *
  have hld : (hexOf d).length ≤ 2000001 := by unfold hexOf; split <;> simp [hexs_len]; omega
  have Hd := Lib.hid (fun W (h : BRow W (.slice av d.length cv) d) => refhexq_any d _ W (by omega) h)
  generalize hexOf d = td at *
  have HV := Lib.hid hv
  clear hv
  go_enter Tryz.func40, Tryz.ntmps40
  go_wp2_with fail
  refine (hW.out _).mono ?_
  rintro e w1 ⟨rfl, hb1⟩
  have HB := C8.new w (.int .i64 3) (.int .i64 se) (.int .i64 st) (.string tn) (.int .u64 (n : Int)) (.int .i64 m) (.int .u64 (b : Int)) (.slice av d.length cv) 44
  have hz : (w.alloc (.cells #[.int .i64 3, .int .i64 se, .int .i64 st, .string tn, .int .u64 (n : Int), .int .i64 m, .int .u64 (b : Int), .slice av d.length cv] 44)).heap.size = w.heap.size + 1 := by simp
  have HR := C8.new (w.alloc (.cells #[.int .i64 3, .int .i64 se, .int .i64 st, .string tn, .int .u64 (n : Int), .int .i64 m, .int .u64 (b : Int), .slice av d.length cv] 44)) (.int .i64 0) (.int .i64 0) (.int .i64 0) (.string ⟨#[]⟩) (.int .u64 0) (.int .i64 0) (.int .u64 0) (.slice none 0 0) 44
  rw [hz] at HR
  have B1 := (HB.below ((Below.refl _ _).alloc (Nat.le_refl _) _)).below hb1
  have R1 := HR.below hb1
  have HB1 := Lib.hid B1
  have HR1 := Lib.hid R1
  have s1 := hb1.size
  have s2 : w.heap.size + 2 ≤ w1.heap.size := by simpa using s1
  have hB : Below w.heap.size w w1 := (((Below.refl _ _).alloc (Nat.le_refl _) _).alloc (by simp) _).trans (hb1.mono (by simp; omega))
  have BB := Lib.hid hB
  clear HB HR hz s1 hW hb1 hB B1 R1
  have HN := C8.new w1 (.int .i64 3) (.int .i64 0) (.int .i64 0) (.string ⟨#[]⟩) (.int .u64 0) (.int .i64 0) (.int .u64 0) (.slice none 0 0) 44
  have ba : Below w1.heap.size w1 (w1.alloc (.cells #[.int .i64 3, .int .i64 0, .int .i64 0, .string ⟨#[]⟩, .int .u64 0, .int .i64 0, .int .u64 0, .slice none 0 0] 44)) := (Below.refl _ _).alloc (Nat.le_refl _) _
  have HB2 := Lib.hid (HB1.out.below ba)
  have HR2 := Lib.hid (HR1.out.below ba)
  have HN2 := Lib.hid HN
  have hz1 : (w1.alloc (.cells #[.int .i64 3, .int .i64 0, .int .i64 0, .string ⟨#[]⟩, .int .u64 0, .int .i64 0, .int .u64 0, .slice none 0 0] 44)).heap.size = w1.heap.size + 1 := by simp
  have HB0 := Lib.hid (BB.out.trans (ba.mono (by omega)))
  have HVb := Lib.hid (brow_below HB0.out HV.out)
  obtain ⟨x0, x1, x2, x3, x4, x5, x6, x7, xf⟩ := HB1.out
  clear xf HN ba
  have l1 : w.heap.size < w1.heap.size := by omega
  have l2 : w.heap.size + 1 < w1.heap.size := by omega
  have n1 : w.heap.size ≠ w1.heap.size := by omega
  have n2 : w.heap.size + 1 ≠ w1.heap.size := by omega
  go_wp2_with fail
  clear x0 x1 x2 x3 x4 x5 x6 x7
  obtain ⟨z0, z1, z2, z3, z4, z5, z6, z7, zf⟩ := HB2.out
  have HZ1 := Lib.hid hz1
  clear zf hz1 HB1 HR1 BB
  generalize w1.alloc (.cells #[.int .i64 3, .int .i64 0, .int .i64 0, .string ⟨#[]⟩, .int .u64 0, .int .i64 0, .int .u64 0, .slice none 0 0] 44) = W at *
  go_quiet ((first | (go_at_call 61; exact Calls.quiet_of_same (Hse.out _)) | (go_at_call 24; exact Calls.quiet_of (Hd.out _ (brow_drewN HVb.out _)))))
  all_goals
    have hb3 : Below W.heap.size W (W.drewN nq) := below_drewN (Below.refl _ _) nq
    clear z0 z1 z2 z3 z4 z5 z6 z7
    generalize W.drewN nq = w2 at *
    have B2 := HB2.out.below hb3
    have R2 := HR2.out.below hb3
    have N2 := HN2.out.below hb3
    have HR3 := Lib.hid R2
    have HB3 := Lib.hid hb3
    have s3 := hb3.size
    have s4 := HZ1.out
    have l3 : w1.heap.size < w2.heap.size := by omega
    obtain ⟨x0, x1, x2, x3, x4, x5, x6, x7, xf⟩ := B2
    obtain ⟨y0, y1, y2, y3, y4, y5, y6, y7, yf⟩ := R2
    obtain ⟨v0, v1, v2, v3, v4, v5, v6, v7, vf⟩ := N2
    have f0 := yf 0
    have f1 := yf 1
    have f2 := yf 2
    have f3 := yf 3
    have f4 := yf 4
    have f5 := yf 5
    have f6 := yf 6
    have f7 := yf 7
    have e1 := vf 1
    have e7 := vf 7
    have so := set_off8
    clear xf yf vf hb3 s4
    go_wp2_with fail
    go_region
    go_wp2
    refine bodyPost_ret (v := .tuple #[.string (S (wordN 3 ++ 32 :: (tse ++ 32 :: td))), .agg #[.int .i64 3, .int .i64 se, .int .i64 0, .string ⟨#[]⟩, .int .u64 0, .int .i64 0, .int .u64 0, .slice av d.length cv]]) ?_ rfl ⟨rfl, ?_⟩
    · have K := put8 (HR3.out.chg (bs := [w1.heap.size]) (((Chg.refl _ _).setCell (p := ⟨w1.heap.size, 1, none⟩) (by simp) (.int .i64 se)).setCell (p := ⟨w1.heap.size, 7, none⟩) (by simp) (.slice av d.length cv)) (by simp; omega)) (.int .i64 3) (.int .i64 se) (.int .i64 0) (.string ⟨#[]⟩) (.int .u64 0) (.int .i64 0) (.int .u64 0) (.slice av d.length cv)
      obtain ⟨k0, k1, k2, k3, k4, k5, k6, k7, _⟩ := K
      have es : (⟨#[98, 121, 116, 101, 115]⟩ : ByteArray) ++ ⟨#[32]⟩ ++ S tse ++ ⟨#[32]⟩ ++ S td = S (wordN 3 ++ 32 :: (tse ++ 32 :: td)) := by
        skip
        show S [98, 121, 116, 101, 115] ++ S [32] ++ S tse ++ S [32] ++ S td = _
        rw [append_S, append_S, append_S, append_S]
        simp [wordN]
      simp [results, Tryz.results40, go_sem, k0, k1, k2, k3, k4, k5, k6, k7, es]
    · have hB : Below w.heap.size w ((w2.setCell ⟨w1.heap.size, 1, none⟩ (.int .i64 se)).setCell ⟨w1.heap.size, 7, none⟩ (.slice av d.length cv)) := (((HB0.out.trans (HB3.out.mono (by have := HZ1.out; omega)))).setCell (p := ⟨w1.heap.size, 1, none⟩) (by show w.heap.size ≤ w1.heap.size; omega) (.int .i64 se)).setCell (p := ⟨w1.heap.size, 7, none⟩) (by show w.heap.size ≤ w1.heap.size; omega) (.slice av d.length cv)
      exact (below_put8 hB (by omega) _ _ _ _ _ _ _ _).drew

set_option maxRecDepth 100000 in
set_option maxHeartbeats 4000000 in
theorem line5 (se st : Int) (tn : ByteArray) (n : Nat) (m : Int) (b : Nat) (v : Value) (d : List UInt8) (w : World) (hse0 : 0 ≤ se) (hse1 : se ≤ 9223372036854775807) (hst0 : 0 ≤ st) (hst1 : st ≤ 9223372036854775807) (hd : d.length ≤ 1000000) (hv : BRow w v d) :
    Calls Tryz.prog 40 #[.agg #[.int .i64 5, .int .i64 se, .int .i64 st, .string tn, .int .u64 (n : Int), .int .i64 m, .int .u64 (b : Int), v]] w fun e w' => e = .returned (.tuple #[.string (S (wordN 5 ++ 32 :: (decDigits se.toNat ++ 32 :: (decDigits st.toNat ++ 32 :: hexOf d)))), .agg #[.int .i64 5, .int .i64 se, .int .i64 st, .string ⟨#[]⟩, .int .u64 0, .int .i64 0, .int .u64 0, v]]) ∧ Below w.heap.size w w' := by
  obtain ⟨av, cv, rfl⟩ := brow_form hv
  have hW : Hid (∀ W, Calls Tryz.prog 39 #[.int .i64 5] W fun e w' => e = .returned (.string ⟨#[116, 97, 114, 103, 101, 116]⟩) ∧ Below W.heap.size W w') := Lib.hid (fun W => word39 5 W)
  have hlse : (decDigits se.toNat).length ≤ 20 := dec_len _ (by omega)
  have Hse := Lib.hid (fun W => flip_call (digits39 se W hse0 hse1))
  generalize decDigits se.toNat = tse at *
  have hlst : (decDigits st.toNat).length ≤ 20 := dec_len _ (by omega)
  have Hst := Lib.hid (fun W => flip_call (digits39 st W hst0 hst1))
  generalize decDigits st.toNat = tst at *
  have hld : (hexOf d).length ≤ 2000001 := by unfold hexOf; split <;> simp [hexs_len]; omega
  have Hd := Lib.hid (fun W (h : BRow W (.slice av d.length cv) d) => refhexq_any d _ W (by omega) h)
  generalize hexOf d = td at *
  have HV := Lib.hid hv
  clear hv
  go_enter Tryz.func40, Tryz.ntmps40
  go_wp2_with fail
  refine (hW.out _).mono ?_
  rintro e w1 ⟨rfl, hb1⟩
  have HB := C8.new w (.int .i64 5) (.int .i64 se) (.int .i64 st) (.string tn) (.int .u64 (n : Int)) (.int .i64 m) (.int .u64 (b : Int)) (.slice av d.length cv) 44
  have hz : (w.alloc (.cells #[.int .i64 5, .int .i64 se, .int .i64 st, .string tn, .int .u64 (n : Int), .int .i64 m, .int .u64 (b : Int), .slice av d.length cv] 44)).heap.size = w.heap.size + 1 := by simp
  have HR := C8.new (w.alloc (.cells #[.int .i64 5, .int .i64 se, .int .i64 st, .string tn, .int .u64 (n : Int), .int .i64 m, .int .u64 (b : Int), .slice av d.length cv] 44)) (.int .i64 0) (.int .i64 0) (.int .i64 0) (.string ⟨#[]⟩) (.int .u64 0) (.int .i64 0) (.int .u64 0) (.slice none 0 0) 44
  rw [hz] at HR
  have B1 := (HB.below ((Below.refl _ _).alloc (Nat.le_refl _) _)).below hb1
  have R1 := HR.below hb1
  have HB1 := Lib.hid B1
  have HR1 := Lib.hid R1
  have s1 := hb1.size
  have s2 : w.heap.size + 2 ≤ w1.heap.size := by simpa using s1
  have hB : Below w.heap.size w w1 := (((Below.refl _ _).alloc (Nat.le_refl _) _).alloc (by simp) _).trans (hb1.mono (by simp; omega))
  have BB := Lib.hid hB
  clear HB HR hz s1 hW hb1 hB B1 R1
  have HN := C8.new w1 (.int .i64 5) (.int .i64 0) (.int .i64 0) (.string ⟨#[]⟩) (.int .u64 0) (.int .i64 0) (.int .u64 0) (.slice none 0 0) 44
  have ba : Below w1.heap.size w1 (w1.alloc (.cells #[.int .i64 5, .int .i64 0, .int .i64 0, .string ⟨#[]⟩, .int .u64 0, .int .i64 0, .int .u64 0, .slice none 0 0] 44)) := (Below.refl _ _).alloc (Nat.le_refl _) _
  have HB2 := Lib.hid (HB1.out.below ba)
  have HR2 := Lib.hid (HR1.out.below ba)
  have HN2 := Lib.hid HN
  have hz1 : (w1.alloc (.cells #[.int .i64 5, .int .i64 0, .int .i64 0, .string ⟨#[]⟩, .int .u64 0, .int .i64 0, .int .u64 0, .slice none 0 0] 44)).heap.size = w1.heap.size + 1 := by simp
  have HB0 := Lib.hid (BB.out.trans (ba.mono (by omega)))
  have HVb := Lib.hid (brow_below HB0.out HV.out)
  obtain ⟨x0, x1, x2, x3, x4, x5, x6, x7, xf⟩ := HB1.out
  clear xf HN ba
  have l1 : w.heap.size < w1.heap.size := by omega
  have l2 : w.heap.size + 1 < w1.heap.size := by omega
  have n1 : w.heap.size ≠ w1.heap.size := by omega
  have n2 : w.heap.size + 1 ≠ w1.heap.size := by omega
  go_wp2_with fail
  clear x0 x1 x2 x3 x4 x5 x6 x7
  obtain ⟨z0, z1, z2, z3, z4, z5, z6, z7, zf⟩ := HB2.out
  have HZ1 := Lib.hid hz1
  clear zf hz1 HB1 HR1 BB
  generalize w1.alloc (.cells #[.int .i64 5, .int .i64 0, .int .i64 0, .string ⟨#[]⟩, .int .u64 0, .int .i64 0, .int .u64 0, .slice none 0 0] 44) = W at *
  go_quiet ((first | (go_at_call 61; exact Calls.quiet_of_same (Hse.out _)) | (go_at_call 61; exact Calls.quiet_of_same (Hst.out _)) | (go_at_call 24; exact Calls.quiet_of (Hd.out _ (brow_drewN HVb.out _)))))
  all_goals
    have hb3 : Below W.heap.size W (W.drewN nq) := below_drewN (Below.refl _ _) nq
    clear z0 z1 z2 z3 z4 z5 z6 z7
    generalize W.drewN nq = w2 at *
    have B2 := HB2.out.below hb3
    have R2 := HR2.out.below hb3
    have N2 := HN2.out.below hb3
    have HR3 := Lib.hid R2
    have HB3 := Lib.hid hb3
    have s3 := hb3.size
    have s4 := HZ1.out
    have l3 : w1.heap.size < w2.heap.size := by omega
    obtain ⟨x0, x1, x2, x3, x4, x5, x6, x7, xf⟩ := B2
    obtain ⟨y0, y1, y2, y3, y4, y5, y6, y7, yf⟩ := R2
    obtain ⟨v0, v1, v2, v3, v4, v5, v6, v7, vf⟩ := N2
    have f0 := yf 0
    have f1 := yf 1
    have f2 := yf 2
    have f3 := yf 3
    have f4 := yf 4
    have f5 := yf 5
    have f6 := yf 6
    have f7 := yf 7
    have e1 := vf 1
    have e2 := vf 2
    have e7 := vf 7
    have so := set_off8
    clear xf yf vf hb3 s4
    go_wp2_with fail
    go_region
    go_wp2
    refine bodyPost_ret (v := .tuple #[.string (S (wordN 5 ++ 32 :: (tse ++ 32 :: (tst ++ 32 :: td)))), .agg #[.int .i64 5, .int .i64 se, .int .i64 st, .string ⟨#[]⟩, .int .u64 0, .int .i64 0, .int .u64 0, .slice av d.length cv]]) ?_ rfl ⟨rfl, ?_⟩
    · have K := put8 (HR3.out.chg (bs := [w1.heap.size]) ((((Chg.refl _ _).setCell (p := ⟨w1.heap.size, 1, none⟩) (by simp) (.int .i64 se)).setCell (p := ⟨w1.heap.size, 2, none⟩) (by simp) (.int .i64 st)).setCell (p := ⟨w1.heap.size, 7, none⟩) (by simp) (.slice av d.length cv)) (by simp; omega)) (.int .i64 5) (.int .i64 se) (.int .i64 st) (.string ⟨#[]⟩) (.int .u64 0) (.int .i64 0) (.int .u64 0) (.slice av d.length cv)
      obtain ⟨k0, k1, k2, k3, k4, k5, k6, k7, _⟩ := K
      have es : (⟨#[116, 97, 114, 103, 101, 116]⟩ : ByteArray) ++ ⟨#[32]⟩ ++ S tse ++ ⟨#[32]⟩ ++ S tst ++ ⟨#[32]⟩ ++ S td = S (wordN 5 ++ 32 :: (tse ++ 32 :: (tst ++ 32 :: td))) := by
        skip
        show S [116, 97, 114, 103, 101, 116] ++ S [32] ++ S tse ++ S [32] ++ S tst ++ S [32] ++ S td = _
        rw [append_S, append_S, append_S, append_S, append_S, append_S]
        simp [wordN]
      simp [results, Tryz.results40, go_sem, k0, k1, k2, k3, k4, k5, k6, k7, es]
    · have hB : Below w.heap.size w (((w2.setCell ⟨w1.heap.size, 1, none⟩ (.int .i64 se)).setCell ⟨w1.heap.size, 2, none⟩ (.int .i64 st)).setCell ⟨w1.heap.size, 7, none⟩ (.slice av d.length cv)) := ((((HB0.out.trans (HB3.out.mono (by have := HZ1.out; omega)))).setCell (p := ⟨w1.heap.size, 1, none⟩) (by show w.heap.size ≤ w1.heap.size; omega) (.int .i64 se)).setCell (p := ⟨w1.heap.size, 2, none⟩) (by show w.heap.size ≤ w1.heap.size; omega) (.int .i64 st)).setCell (p := ⟨w1.heap.size, 7, none⟩) (by show w.heap.size ≤ w1.heap.size; omega) (.slice av d.length cv)
      exact (below_put8 hB (by omega) _ _ _ _ _ _ _ _).drew

set_option maxRecDepth 100000 in
set_option maxHeartbeats 4000000 in
theorem line6 (se st : Int) (tn : ByteArray) (n : Nat) (m : Int) (b : Nat) (v : Value) (w : World) (hse0 : 0 ≤ se) (hse1 : se ≤ 9223372036854775807) (hst0 : 0 ≤ st) (hst1 : st ≤ 9223372036854775807) :
    Calls Tryz.prog 40 #[.agg #[.int .i64 6, .int .i64 se, .int .i64 st, .string tn, .int .u64 (n : Int), .int .i64 m, .int .u64 (b : Int), v]] w fun e w' => e = .returned (.tuple #[.string (S (wordN 6 ++ 32 :: (decDigits se.toNat ++ 32 :: decDigits st.toNat))), .agg #[.int .i64 6, .int .i64 se, .int .i64 st, .string ⟨#[]⟩, .int .u64 0, .int .i64 0, .int .u64 0, .slice none 0 0]]) ∧ Below w.heap.size w w' := by
  have hW : Hid (∀ W, Calls Tryz.prog 39 #[.int .i64 6] W fun e w' => e = .returned (.string ⟨#[101, 110, 100]⟩) ∧ Below W.heap.size W w') := Lib.hid (fun W => word39 6 W)
  have hlse : (decDigits se.toNat).length ≤ 20 := dec_len _ (by omega)
  have Hse := Lib.hid (fun W => flip_call (digits39 se W hse0 hse1))
  generalize decDigits se.toNat = tse at *
  have hlst : (decDigits st.toNat).length ≤ 20 := dec_len _ (by omega)
  have Hst := Lib.hid (fun W => flip_call (digits39 st W hst0 hst1))
  generalize decDigits st.toNat = tst at *
  go_enter Tryz.func40, Tryz.ntmps40
  go_wp2_with fail
  refine (hW.out _).mono ?_
  rintro e w1 ⟨rfl, hb1⟩
  have HB := C8.new w (.int .i64 6) (.int .i64 se) (.int .i64 st) (.string tn) (.int .u64 (n : Int)) (.int .i64 m) (.int .u64 (b : Int)) (v) 44
  have hz : (w.alloc (.cells #[.int .i64 6, .int .i64 se, .int .i64 st, .string tn, .int .u64 (n : Int), .int .i64 m, .int .u64 (b : Int), v] 44)).heap.size = w.heap.size + 1 := by simp
  have HR := C8.new (w.alloc (.cells #[.int .i64 6, .int .i64 se, .int .i64 st, .string tn, .int .u64 (n : Int), .int .i64 m, .int .u64 (b : Int), v] 44)) (.int .i64 0) (.int .i64 0) (.int .i64 0) (.string ⟨#[]⟩) (.int .u64 0) (.int .i64 0) (.int .u64 0) (.slice none 0 0) 44
  rw [hz] at HR
  have B1 := (HB.below ((Below.refl _ _).alloc (Nat.le_refl _) _)).below hb1
  have R1 := HR.below hb1
  have HB1 := Lib.hid B1
  have HR1 := Lib.hid R1
  have s1 := hb1.size
  have s2 : w.heap.size + 2 ≤ w1.heap.size := by simpa using s1
  have hB : Below w.heap.size w w1 := (((Below.refl _ _).alloc (Nat.le_refl _) _).alloc (by simp) _).trans (hb1.mono (by simp; omega))
  have BB := Lib.hid hB
  clear HB HR hz s1 hW hb1 hB B1 R1
  have HN := C8.new w1 (.int .i64 6) (.int .i64 0) (.int .i64 0) (.string ⟨#[]⟩) (.int .u64 0) (.int .i64 0) (.int .u64 0) (.slice none 0 0) 44
  have ba : Below w1.heap.size w1 (w1.alloc (.cells #[.int .i64 6, .int .i64 0, .int .i64 0, .string ⟨#[]⟩, .int .u64 0, .int .i64 0, .int .u64 0, .slice none 0 0] 44)) := (Below.refl _ _).alloc (Nat.le_refl _) _
  have HB2 := Lib.hid (HB1.out.below ba)
  have HR2 := Lib.hid (HR1.out.below ba)
  have HN2 := Lib.hid HN
  have hz1 : (w1.alloc (.cells #[.int .i64 6, .int .i64 0, .int .i64 0, .string ⟨#[]⟩, .int .u64 0, .int .i64 0, .int .u64 0, .slice none 0 0] 44)).heap.size = w1.heap.size + 1 := by simp
  have HB0 := Lib.hid (BB.out.trans (ba.mono (by omega)))

  obtain ⟨x0, x1, x2, x3, x4, x5, x6, x7, xf⟩ := HB1.out
  clear xf HN ba
  have l1 : w.heap.size < w1.heap.size := by omega
  have l2 : w.heap.size + 1 < w1.heap.size := by omega
  have n1 : w.heap.size ≠ w1.heap.size := by omega
  have n2 : w.heap.size + 1 ≠ w1.heap.size := by omega
  go_wp2_with fail
  clear x0 x1 x2 x3 x4 x5 x6 x7
  obtain ⟨z0, z1, z2, z3, z4, z5, z6, z7, zf⟩ := HB2.out
  have HZ1 := Lib.hid hz1
  clear zf hz1 HB1 HR1 BB
  generalize w1.alloc (.cells #[.int .i64 6, .int .i64 0, .int .i64 0, .string ⟨#[]⟩, .int .u64 0, .int .i64 0, .int .u64 0, .slice none 0 0] 44) = W at *
  go_quiet ((first | (go_at_call 61; exact Calls.quiet_of_same (Hse.out _)) | (go_at_call 61; exact Calls.quiet_of_same (Hst.out _))))
  all_goals
    have hb3 : Below W.heap.size W (W.drewN nq) := below_drewN (Below.refl _ _) nq
    clear z0 z1 z2 z3 z4 z5 z6 z7
    generalize W.drewN nq = w2 at *
    have B2 := HB2.out.below hb3
    have R2 := HR2.out.below hb3
    have N2 := HN2.out.below hb3
    have HR3 := Lib.hid R2
    have HB3 := Lib.hid hb3
    have s3 := hb3.size
    have s4 := HZ1.out
    have l3 : w1.heap.size < w2.heap.size := by omega
    obtain ⟨x0, x1, x2, x3, x4, x5, x6, x7, xf⟩ := B2
    obtain ⟨y0, y1, y2, y3, y4, y5, y6, y7, yf⟩ := R2
    obtain ⟨v0, v1, v2, v3, v4, v5, v6, v7, vf⟩ := N2
    have f0 := yf 0
    have f1 := yf 1
    have f2 := yf 2
    have f3 := yf 3
    have f4 := yf 4
    have f5 := yf 5
    have f6 := yf 6
    have f7 := yf 7
    have e1 := vf 1
    have e2 := vf 2
    have so := set_off8
    clear xf yf vf hb3 s4
    go_wp2_with fail
    go_region
    go_wp2
    refine bodyPost_ret (v := .tuple #[.string (S (wordN 6 ++ 32 :: (tse ++ 32 :: tst))), .agg #[.int .i64 6, .int .i64 se, .int .i64 st, .string ⟨#[]⟩, .int .u64 0, .int .i64 0, .int .u64 0, .slice none 0 0]]) ?_ rfl ⟨rfl, ?_⟩
    · have K := put8 (HR3.out.chg (bs := [w1.heap.size]) (((Chg.refl _ _).setCell (p := ⟨w1.heap.size, 1, none⟩) (by simp) (.int .i64 se)).setCell (p := ⟨w1.heap.size, 2, none⟩) (by simp) (.int .i64 st)) (by simp; omega)) (.int .i64 6) (.int .i64 se) (.int .i64 st) (.string ⟨#[]⟩) (.int .u64 0) (.int .i64 0) (.int .u64 0) (.slice none 0 0)
      obtain ⟨k0, k1, k2, k3, k4, k5, k6, k7, _⟩ := K
      have es : (⟨#[101, 110, 100]⟩ : ByteArray) ++ ⟨#[32]⟩ ++ S tse ++ ⟨#[32]⟩ ++ S tst = S (wordN 6 ++ 32 :: (tse ++ 32 :: tst)) := by
        skip
        show S [101, 110, 100] ++ S [32] ++ S tse ++ S [32] ++ S tst = _
        rw [append_S, append_S, append_S, append_S]
        simp [wordN]
      simp [results, Tryz.results40, go_sem, k0, k1, k2, k3, k4, k5, k6, k7, es]
    · have hB : Below w.heap.size w ((w2.setCell ⟨w1.heap.size, 1, none⟩ (.int .i64 se)).setCell ⟨w1.heap.size, 2, none⟩ (.int .i64 st)) := (((HB0.out.trans (HB3.out.mono (by have := HZ1.out; omega)))).setCell (p := ⟨w1.heap.size, 1, none⟩) (by show w.heap.size ≤ w1.heap.size; omega) (.int .i64 se)).setCell (p := ⟨w1.heap.size, 2, none⟩) (by show w.heap.size ≤ w1.heap.size; omega) (.int .i64 st)
      exact (below_put8 hB (by omega) _ _ _ _ _ _ _ _).drew
end Go.Proofs.YtinabbdecmjcpaaGreatDoor.Ev
