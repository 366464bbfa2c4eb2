/- The reference's Print of layer 39, of an event whose kind there is: case differs. -/
import Derived.Test.YtinabbdecmjcpaaGreatDoorGEvPrint
namespace Go.Proofs.YtinabbdecmjcpaaGreatDoor.Ev
open Go.RowKit Go.Proofs.YtinabbdecmjcpaaGreatDoor Go.Proofs.YtinabbdecmjcpaaGreatDoor.Plain Go.Proofs.YtinabbdecmjcpaaGreatDoor.Words Go.Proofs.YtinabbdecmjcpaaGreatDoor.Named Go.Proofs.YtinabbdecmjcpaaGreatDoor.Hex Go.Proofs.YtinabbdecmjcpaaGreatDoor.Number
set_option linter.unusedVariables false


theorem kc {W w1 : World} {a : Addr} {v : Value} (hb : Below W.heap.size W w1) (h : W.cell? a = some v) : w1.cell? a = some v := (hb.cell (World.block_lt_of_cell? _ _ h)).trans h
theorem bt {a b c : World} (h : Below a.heap.size a b) (k : Below b.heap.size b c) : Below a.heap.size a c := h.trans (k.mono h.size)
theorem undrew_b {B : Nat} {w w1 : World} (h : Below B w.drew w1) : Below B w w1 := ⟨h.os, h.tape, h.output, h.size, h.block⟩

section
variable (k se st : Int) (tn : ByteArray) (n : Nat) (m : Int) (b : Nat) (av : Option Addr) (ld cv : Nat) (w : World)
set_option maxRecDepth 100000 in
set_option maxHeartbeats 80000000 in
theorem print_differs (d d' : List UInt8) (y p s tn' : ByteArray) (k' se' st' m' : Int) (n' b' : Nat) (er : Nat) (e1 : y.toList.isEmpty = false) (e2 : (y.toList == []) = false) (h0 : 0 ≤ se) (h1 : 0 ≤ st) (h2 : 0 ≤ m) (hld : ld = d.length)
    (hv0 : BRow w (.slice av ld cv) d)
    (hW0 : ∀ W, Calls Tryz.prog 39 #[.int .i64 k] W fun e w' => e = .returned (.string y) ∧ Below W.heap.size W w')
    (hP0 : ∀ W, Calls Tryz.prog 42 #[.int .i64 k] W fun e w' => e = .returned (.string p) ∧ Below W.heap.size W w')
    (hL0 : ∀ W, BRow W (.slice av ld cv) d → Calls Tryz.prog 40 #[.agg #[.int .i64 k, .int .i64 se, .int .i64 st, .string tn, .int .u64 (n : Int), .int .i64 m, .int .u64 (b : Int), .slice av ld cv]] W fun e w' => ∃ vb, e = .returned (.tuple #[.string s, .agg #[.int .i64 k', .int .i64 se', .int .i64 st', .string tn', .int .u64 (n' : Int), .int .i64 m', .int .u64 (b' : Int), vb]]) ∧ BRow w' vb d' ∧ Below W.heap.size W w')
    (hS0 : ∀ W va vb, BRow W va d → BRow W vb d' → Calls Tryz.prog 30 #[.agg #[.int .i64 k, .int .i64 se, .int .i64 st, .string tn, .int .u64 (n : Int), .int .i64 m, .int .u64 (b : Int), va], .agg #[.int .i64 k', .int .i64 se', .int .i64 st', .string tn', .int .u64 (n' : Int), .int .i64 m', .int .u64 (b' : Int), vb]] W fun e w' => e = .returned (.bool false) ∧ Below W.heap.size W w')
    (hC0 : ∀ W, Calls Tryz.prog 41 #[.string s, .string y, .string p] W fun e w' => e = .returned (.int .i64 (er : Nat)) ∧ Below W.heap.size W w') :
    Calls Tryz.prog 23 #[.agg #[.int .i64 k, .int .i64 se, .int .i64 st, .string tn, .int .u64 (n : Int), .int .i64 m, .int .u64 (b : Int), .slice av ld cv]] w fun r w' => r = .returned (.tuple #[.string ⟨#[]⟩, .bool false]) ∧ Below w.heap.size w w' := by
  have hW := Lib.hid hW0
  have hP := Lib.hid hP0
  have hL := Lib.hid hL0
  have hS := Lib.hid hS0
  have hC := Lib.hid hC0
  have HB := Lib.hid (C8.new w (.int .i64 k) (.int .i64 se) (.int .i64 st) (.string tn) (.int .u64 (n : Int)) (.int .i64 m) (.int .u64 (b : Int)) (.slice av ld cv) 44)
  have BA := Lib.hid (box_below k se st tn n m b av ld cv w)
  have HV := Lib.hid hv0
  clear hW0 hP0 hL0 hS0 hC0 hld hv0
  go_enter Tryz.func23, Tryz.ntmps23
  go_wp2_with fail
  refine (hW.out _).mono ?_
  rintro r w1 ⟨rfl, hb1⟩
  have HB1 := Lib.hid (HB.out.below hb1)
  have B1 := Lib.hid (bt BA.out hb1)
  obtain ⟨x0, x1, x2, x3, x4, x5, x6, x7, xf⟩ := HB1.out
  clear xf hb1 BA HB
  go_wp2_with fail
  refine (hL.out _ (brow_below B1.out HV.out)).mono ?_
  rintro r w2 ⟨vb, rfl, hvb, hb2⟩
  obtain ⟨ab, cb, rfl⟩ := brow_form hvb
  have HB2 := Lib.hid (HB1.out.below hb2)
  have B2 := Lib.hid (bt B1.out hb2)
  have HVB := Lib.hid hvb
  clear x0 x1 x2 x3 x4 x5 x6 x7 hb2 HB1 B1 hvb
  go_wp2_with fail
  have b3 : Below w2.heap.size w2 (w2.alloc (.cells #[.int .i64 k', .int .i64 se', .int .i64 st', .string tn', .int .u64 (n' : Int), .int .i64 m', .int .u64 (b' : Int), .slice ab d'.length cb] 44)) := (Below.refl _ _).alloc (Nat.le_refl _) _
  have HB3 := HB2.out.below b3
  have HX3 := C8.new w2 (.int .i64 k') (.int .i64 se') (.int .i64 st') (.string tn') (.int .u64 (n' : Int)) (.int .i64 m') (.int .u64 (b' : Int)) (.slice ab d'.length cb) 44
  have B3 := Lib.hid (bt B2.out b3)
  have HVB3 := Lib.hid (brow_below b3 HVB.out)
  have HV3 := Lib.hid (brow_below B3.out HV.out)
  clear b3 HB2 B2 HVB HV
  generalize w2.alloc (.cells #[.int .i64 k', .int .i64 se', .int .i64 st', .string tn', .int .u64 (n' : Int), .int .i64 m', .int .u64 (b' : Int), .slice ab d'.length cb] 44) = w3 at *
  obtain ⟨x0, x1, x2, x3, x4, x5, x6, x7, xf⟩ := HB3
  obtain ⟨z0, z1, z2, z3, z4, z5, z6, z7, zf⟩ := HX3
  clear xf zf
  have x0d : w3.drew.cell? ⟨w.heap.size, 0, none⟩ = some (.int .i64 k) := x0
  refine wp_region_any (by kernel_rfl) ?_
  change wpAny _ _ _ _ _ _ _ (World.drew _)
  refine wpAny_ready (rs := [0, 1]) (by kernel_rfl) (by simp) ?_
  refine AllReady.cons rfl (fun K hK => ?_) (AllReady.cons rfl (fun K hK => ?_) AllReady.nil)
  · go_simp
    refine hK _ _ ?_
    clear hK K
    refine wpAny_ready (rs := [1]) (by kernel_rfl) (by simp) ?_
    refine AllReady.cons rfl (fun K hK => ?_) AllReady.nil
    go_simp
    refine hK _ _ ?_
    clear hK K
    refine wpAny_ready (rs := [2]) (by kernel_rfl) (by simp) ?_
    refine AllReady.cons rfl (fun K hK => ?_) AllReady.nil
    go_simp
    go_wp2_with (go_at_call 30; refine (hS.out _ _ _ (by exact HV3.out) (by exact HVB3.out)).mono ?_; rintro r w4 ⟨rfl, hb4⟩)
    refine wpAny_take (i := 3) (v := .bool true) rfl (by kernel_rfl) (by kernel_rfl) (by kernel_rfl) (fun _ _ _ h => h) (Or.inl ⟨by kernel_rfl, ?_⟩) ?_
    · intro w
      go_simp
    refine wpAny_take (i := 4) (v := .bool true) rfl (by kernel_rfl) (by kernel_rfl) (by kernel_rfl) (fun _ _ _ h => h) (Or.inl ⟨by kernel_rfl, ?_⟩) ?_
    · intro w
      go_simp
    refine wpAny_take (i := 5) (v := undef) rfl (by kernel_rfl) (by kernel_rfl) (by kernel_rfl) (fun _ _ _ h => h) (Or.inr ⟨by kernel_rfl, rfl⟩) ?_
    refine wpAny_take (i := 6) (v := undef) rfl (by kernel_rfl) (by kernel_rfl) (by kernel_rfl) (fun _ _ _ h => h) (Or.inr ⟨by kernel_rfl, rfl⟩) ?_
    refine wpAny_take (i := 7) (v := undef) rfl (by kernel_rfl) (by kernel_rfl) (by kernel_rfl) (fun _ _ _ h => h) (Or.inr ⟨by kernel_rfl, rfl⟩) ?_
    refine wpAny_take (i := 8) (v := undef) rfl (by kernel_rfl) (by kernel_rfl) (by kernel_rfl) (fun _ _ _ h => h) (Or.inr ⟨by kernel_rfl, rfl⟩) ?_
    refine wpAny_take (i := 9) (v := undef) rfl (by kernel_rfl) (by kernel_rfl) (by kernel_rfl) (fun _ _ _ h => h) (Or.inr ⟨by kernel_rfl, rfl⟩) ?_
    refine wpAny_take (i := 10) (v := undef) rfl (by kernel_rfl) (by kernel_rfl) (by kernel_rfl) (fun _ _ _ h => h) (Or.inr ⟨by kernel_rfl, rfl⟩) ?_
    refine wpAny_take (i := 11) (v := undef) rfl (by kernel_rfl) (by kernel_rfl) (by kernel_rfl) (fun _ _ _ h => h) (Or.inr ⟨by kernel_rfl, rfl⟩) ?_
    refine wpAny_take (i := 12) (v := undef) rfl (by kernel_rfl) (by kernel_rfl) (by kernel_rfl) (fun _ _ _ h => h) (Or.inr ⟨by kernel_rfl, rfl⟩) ?_
    refine wpAny_take (i := 13) (v := undef) rfl (by kernel_rfl) (by kernel_rfl) (by kernel_rfl) (fun _ _ _ h => h) (Or.inr ⟨by kernel_rfl, rfl⟩) ?_
    refine wpAny_take (i := 14) (v := .bool true) rfl (by kernel_rfl) (by kernel_rfl) (by kernel_rfl) (fun _ _ _ h => h) (Or.inl ⟨by kernel_rfl, ?_⟩) ?_
    · intro w
      go_simp
    refine wpAny_done (by kernel_rfl) ?_ _
    clear z0 z1 z2 z3 z4 z5 z6 z7 x0 x1 x2 x3 x4 x5 x6 x7 x0d
    go_simp
    go_wp2_with fail
    go_ret2
    exact ⟨rfl, bt B3.out (undrew_b hb4)⟩
  · go_simp
    refine hK _ _ ?_
    clear hK K
    refine wpAny_ready (rs := [0]) (by kernel_rfl) (by simp) ?_
    refine AllReady.cons rfl (fun K hK => ?_) AllReady.nil
    go_simp
    refine hK _ _ ?_
    clear hK K
    refine wpAny_ready (rs := [2]) (by kernel_rfl) (by simp) ?_
    refine AllReady.cons rfl (fun K hK => ?_) AllReady.nil
    go_simp
    go_wp2_with (go_at_call 30; refine (hS.out _ _ _ (by exact HV3.out) (by exact HVB3.out)).mono ?_; rintro r w4 ⟨rfl, hb4⟩)
    refine wpAny_take (i := 3) (v := .bool true) rfl (by kernel_rfl) (by kernel_rfl) (by kernel_rfl) (fun _ _ _ h => h) (Or.inl ⟨by kernel_rfl, ?_⟩) ?_
    · intro w
      go_simp
    refine wpAny_take (i := 4) (v := .bool true) rfl (by kernel_rfl) (by kernel_rfl) (by kernel_rfl) (fun _ _ _ h => h) (Or.inl ⟨by kernel_rfl, ?_⟩) ?_
    · intro w
      go_simp
    refine wpAny_take (i := 5) (v := undef) rfl (by kernel_rfl) (by kernel_rfl) (by kernel_rfl) (fun _ _ _ h => h) (Or.inr ⟨by kernel_rfl, rfl⟩) ?_
    refine wpAny_take (i := 6) (v := undef) rfl (by kernel_rfl) (by kernel_rfl) (by kernel_rfl) (fun _ _ _ h => h) (Or.inr ⟨by kernel_rfl, rfl⟩) ?_
    refine wpAny_take (i := 7) (v := undef) rfl (by kernel_rfl) (by kernel_rfl) (by kernel_rfl) (fun _ _ _ h => h) (Or.inr ⟨by kernel_rfl, rfl⟩) ?_
    refine wpAny_take (i := 8) (v := undef) rfl (by kernel_rfl) (by kernel_rfl) (by kernel_rfl) (fun _ _ _ h => h) (Or.inr ⟨by kernel_rfl, rfl⟩) ?_
    refine wpAny_take (i := 9) (v := undef) rfl (by kernel_rfl) (by kernel_rfl) (by kernel_rfl) (fun _ _ _ h => h) (Or.inr ⟨by kernel_rfl, rfl⟩) ?_
    refine wpAny_take (i := 10) (v := undef) rfl (by kernel_rfl) (by kernel_rfl) (by kernel_rfl) (fun _ _ _ h => h) (Or.inr ⟨by kernel_rfl, rfl⟩) ?_
    refine wpAny_take (i := 11) (v := undef) rfl (by kernel_rfl) (by kernel_rfl) (by kernel_rfl) (fun _ _ _ h => h) (Or.inr ⟨by kernel_rfl, rfl⟩) ?_
    refine wpAny_take (i := 12) (v := undef) rfl (by kernel_rfl) (by kernel_rfl) (by kernel_rfl) (fun _ _ _ h => h) (Or.inr ⟨by kernel_rfl, rfl⟩) ?_
    refine wpAny_take (i := 13) (v := undef) rfl (by kernel_rfl) (by kernel_rfl) (by kernel_rfl) (fun _ _ _ h => h) (Or.inr ⟨by kernel_rfl, rfl⟩) ?_
    refine wpAny_take (i := 14) (v := .bool true) rfl (by kernel_rfl) (by kernel_rfl) (by kernel_rfl) (fun _ _ _ h => h) (Or.inl ⟨by kernel_rfl, ?_⟩) ?_
    · intro w
      go_simp
    refine wpAny_done (by kernel_rfl) ?_ _
    clear z0 z1 z2 z3 z4 z5 z6 z7 x0 x1 x2 x3 x4 x5 x6 x7 x0d
    go_simp
    go_wp2_with fail
    go_ret2
    exact ⟨rfl, bt B3.out (undrew_b hb4)⟩
end
end Go.Proofs.YtinabbdecmjcpaaGreatDoor.Ev
