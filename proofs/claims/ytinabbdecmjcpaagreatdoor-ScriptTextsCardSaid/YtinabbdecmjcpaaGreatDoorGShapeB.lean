/- The contract of event.shapeOf, kind by kind. -/
import Derived.Test.YtinabbdecmjcpaaGreatDoorGShape
namespace Go.Proofs.YtinabbdecmjcpaaGreatDoor.Ev
open Go.RowKit Go.Proofs.YtinabbdecmjcpaaGreatDoor Go.Proofs.YtinabbdecmjcpaaGreatDoor.Plain Go.Proofs.YtinabbdecmjcpaaGreatDoor.Words Go.Proofs.YtinabbdecmjcpaaGreatDoor.Named Go.Proofs.YtinabbdecmjcpaaGreatDoor.Hex Go.Proofs.YtinabbdecmjcpaaGreatDoor.Number
set_option linter.unusedVariables false


set_option maxRecDepth 100000 in
set_option maxHeartbeats 4000000 in
theorem shape4 (x : Nat) (w : World) : Calls Tryz.prog 56 #[.int .i64 4, .pointer (some ⟨x, 0, none⟩)] w fun e w' => e = .returned (.tuple #[.agg #[.string ⟨#[104, 97, 110, 103, 117, 112]⟩, .string ⟨#[115]⟩, .pointer (some ⟨x, 1, none⟩), .pointer none, .pointer none, .pointer none, .pointer none, .pointer none, .pointer none, .pointer none, .pointer none, .pointer none, .pointer none, .pointer none], .bool true]) ∧ Below w.heap.size w w' := by

  have hz : (w.alloc (.cells #[.string ⟨#[]⟩, .string ⟨#[]⟩, .pointer none, .pointer none, .pointer none, .pointer none, .pointer none, .pointer none, .pointer none, .pointer none, .pointer none, .pointer none, .pointer none, .pointer none] 111)).heap.size = w.heap.size + 1 := by simp
  have hR := C14.new w (.string ⟨#[]⟩) (.string ⟨#[]⟩) (.pointer none) (.pointer none) (.pointer none) (.pointer none) (.pointer none) (.pointer none) (.pointer none) (.pointer none) (.pointer none) (.pointer none) (.pointer none) (.pointer none) 111
  have ba : Below w.heap.size w (w.alloc (.cells #[.string ⟨#[]⟩, .string ⟨#[]⟩, .pointer none, .pointer none, .pointer none, .pointer none, .pointer none, .pointer none, .pointer none, .pointer none, .pointer none, .pointer none, .pointer none, .pointer none] 111)) := (Below.refl _ _).alloc (Nat.le_refl _) _
  have RR := Lib.hid hR
  have BA := Lib.hid ba
  have HZ := Lib.hid hz
  clear hR ba hz
  go_enter Tryz.func56, Tryz.ntmps56
  go_wp2
  go_cut [6, 7, 8] (fun v6 v7 v8 wx => C4 wx v6 (.pointer (some ⟨x, 1, none⟩)) (.pointer none) (.pointer none) (.pointer none) ∧ C4 wx v7 (.pointer (some ⟨x, 2, none⟩)) (.pointer none) (.pointer none) (.pointer none) ∧ C4 wx v8 (.pointer (some ⟨x, 5, none⟩)) (.pointer none) (.pointer none) (.pointer none) ∧ Below (w.alloc (.cells #[.string ⟨#[]⟩, .string ⟨#[]⟩, .pointer none, .pointer none, .pointer none, .pointer none, .pointer none, .pointer none, .pointer none, .pointer none, .pointer none, .pointer none, .pointer none, .pointer none] 111)).heap.size (w.alloc (.cells #[.string ⟨#[]⟩, .string ⟨#[]⟩, .pointer none, .pointer none, .pointer none, .pointer none, .pointer none, .pointer none, .pointer none, .pointer none, .pointer none, .pointer none, .pointer none, .pointer none] 111)) wx)
  case first =>
    go_region
    all_goals
      go_wp2_with fail
      go_meet
      refine ⟨?_, ?_, ?_, three_below _ _ _ _⟩
      all_goals first
        | exact nth1 _ _ _ _ _ _ _ _ _ HZ.out
        | exact nth2 _ _ _ _ _ _ _ _ _ (by rw [HZ.out])
        | exact nth3 _ _ _ _ _ _ _ _ _ (by rw [HZ.out])
  case rest =>
    obtain ⟨h6, h7, h8, hb⟩ := hcut
    have H6 := Lib.hid h6
    have H7 := Lib.hid h7
    have H8 := Lib.hid h8
    have R1 := Lib.hid (RR.out.below hb)
    have B1 := Lib.hid (BA.out.trans (hb.mono BA.out.size))
    clear h6 h7 h8 hb RR BA HZ
    obtain ⟨wa, rfl⟩ : ∃ wa : World, wa = wc := ⟨_, rfl⟩
    go_wp2_with fail
    go_cut [9, 10, 11] (fun v9 v10 v11 wx => C4 wx v9 (.pointer none) (.pointer none) (.pointer (some ⟨x, 3, none⟩)) (.pointer none) ∧ C4 wx v10 (.pointer none) (.pointer (some ⟨x, 4, none⟩)) (.pointer none) (.pointer none) ∧ C4 wx v11 (.pointer none) (.pointer (some ⟨x, 6, none⟩)) (.pointer none) (.pointer none) ∧ Below wa.heap.size wa wx)
    case first =>
      go_region
      all_goals
        go_wp2_with fail
        go_meet
        refine ⟨?_, ?_, ?_, three_below _ _ _ _⟩
        all_goals first
          | exact nth1 _ _ _ _ _ _ _ _ _ rfl
          | exact nth2 _ _ _ _ _ _ _ _ _ rfl
          | exact nth3 _ _ _ _ _ _ _ _ _ rfl
    case rest =>
      obtain ⟨h9, h10, h11, hb⟩ := hcut
      have R := Lib.hid (R1.out.below hb)
      have BW := Lib.hid (B1.out.trans (hb.mono B1.out.size))
      have g6 := H6.out.below hb
      have g7 := H7.out.below hb
      have g8 := H8.out.below hb
      clear hb H6 H7 H8 R1 B1
      obtain ⟨wb, rfl⟩ : ∃ wb : World, wb = wc := ⟨_, rfl⟩
      obtain ⟨b6, q6, c6a, c6b, c6c, c6d⟩ := g6.at'
      subst q6
      have l6 : b6 < wb.heap.size := World.block_lt_of_cell? _ _ c6a
      have m6 : b6 ≠ wb.heap.size := by omega
      clear g6
      obtain ⟨b7, q7, c7a, c7b, c7c, c7d⟩ := g7.at'
      subst q7
      have l7 : b7 < wb.heap.size := World.block_lt_of_cell? _ _ c7a
      have m7 : b7 ≠ wb.heap.size := by omega
      clear g7
      obtain ⟨b8, q8, c8a, c8b, c8c, c8d⟩ := g8.at'
      subst q8
      have l8 : b8 < wb.heap.size := World.block_lt_of_cell? _ _ c8a
      have m8 : b8 ≠ wb.heap.size := by omega
      clear g8
      obtain ⟨b9, q9, c9a, c9b, c9c, c9d⟩ := h9.at'
      subst q9
      have l9 : b9 < wb.heap.size := World.block_lt_of_cell? _ _ c9a
      have m9 : b9 ≠ wb.heap.size := by omega
      clear h9
      obtain ⟨b10, q10, c10a, c10b, c10c, c10d⟩ := h10.at'
      subst q10
      have l10 : b10 < wb.heap.size := World.block_lt_of_cell? _ _ c10a
      have m10 : b10 ≠ wb.heap.size := by omega
      clear h10
      obtain ⟨b11, q11, c11a, c11b, c11c, c11d⟩ := h11.at'
      subst q11
      have l11 : b11 < wb.heap.size := World.block_lt_of_cell? _ _ c11a
      have m11 : b11 ≠ wb.heap.size := by omega
      clear h11
      obtain ⟨r0, r1, r2, r3, r4, r5, r6, r7, r8, r9, r10, r11, r12, r13, rf⟩ := R.out
      have f0 := rf 0
      have f1 := rf 1
      have f2 := rf 2
      have f3 := rf 3
      have f4 := rf 4
      have f5 := rf 5
      have f6 := rf 6
      have f7 := rf 7
      have f8 := rf 8
      have f9 := rf 9
      have f10 := rf 10
      have f11 := rf 11
      have f12 := rf 12
      have f13 := rf 13
      have lw : w.heap.size < wb.heap.size := R.out.lt
      have mw : w.heap.size ≠ wb.heap.size := by omega
      clear rf
      go_wp2_with fail
      refine bodyPost_ret (v := .tuple #[.agg #[.string ⟨#[104, 97, 110, 103, 117, 112]⟩, .string ⟨#[115]⟩, .pointer (some ⟨x, 1, none⟩), .pointer none, .pointer none, .pointer none, .pointer none, .pointer none, .pointer none, .pointer none, .pointer none, .pointer none, .pointer none, .pointer none], .bool true]) ?_ rfl ⟨rfl, ?_⟩
      · have K := (put14 R.out (.string ⟨#[104, 97, 110, 103, 117, 112]⟩) (.string ⟨#[115]⟩) (.pointer (some ⟨x, 1, none⟩)) (.pointer none) (.pointer none) (.pointer none) (.pointer none) (.pointer none) (.pointer none) (.pointer none) (.pointer none) (.pointer none) (.pointer none) (.pointer none)).below ((Below.refl _ _).alloc (Nat.le_refl _) (.cells #[.pointer none, .pointer none, .pointer none, .pointer (some ⟨x, 7, none⟩)] 108))
        obtain ⟨k0, k1, k2, k3, k4, k5, k6, k7, k8, k9, k10, k11, k12, k13, _⟩ := K
        simp [results, Tryz.results56, go_sem, k0, k1, k2, k3, k4, k5, k6, k7, k8, k9, k10, k11, k12, k13]
      · exact (below_put14 BW.out (Nat.le_refl _) _ _ _ _ _ _ _ _ _ _ _ _ _ _).alloc (by have := BW.out.size; simp; omega) _

set_option maxRecDepth 100000 in
set_option maxHeartbeats 4000000 in
theorem shape5 (x : Nat) (w : World) : Calls Tryz.prog 56 #[.int .i64 5, .pointer (some ⟨x, 0, none⟩)] w fun e w' => e = .returned (.tuple #[.agg #[.string ⟨#[116, 97, 114, 103, 101, 116]⟩, .string ⟨#[115, 115, 98]⟩, .pointer (some ⟨x, 1, none⟩), .pointer none, .pointer none, .pointer none, .pointer (some ⟨x, 2, none⟩), .pointer none, .pointer none, .pointer none, .pointer none, .pointer none, .pointer none, .pointer (some ⟨x, 7, none⟩)], .bool true]) ∧ Below w.heap.size w w' := by

  have hz : (w.alloc (.cells #[.string ⟨#[]⟩, .string ⟨#[]⟩, .pointer none, .pointer none, .pointer none, .pointer none, .pointer none, .pointer none, .pointer none, .pointer none, .pointer none, .pointer none, .pointer none, .pointer none] 111)).heap.size = w.heap.size + 1 := by simp
  have hR := C14.new w (.string ⟨#[]⟩) (.string ⟨#[]⟩) (.pointer none) (.pointer none) (.pointer none) (.pointer none) (.pointer none) (.pointer none) (.pointer none) (.pointer none) (.pointer none) (.pointer none) (.pointer none) (.pointer none) 111
  have ba : Below w.heap.size w (w.alloc (.cells #[.string ⟨#[]⟩, .string ⟨#[]⟩, .pointer none, .pointer none, .pointer none, .pointer none, .pointer none, .pointer none, .pointer none, .pointer none, .pointer none, .pointer none, .pointer none, .pointer none] 111)) := (Below.refl _ _).alloc (Nat.le_refl _) _
  have RR := Lib.hid hR
  have BA := Lib.hid ba
  have HZ := Lib.hid hz
  clear hR ba hz
  go_enter Tryz.func56, Tryz.ntmps56
  go_wp2
  go_cut [6, 7, 8] (fun v6 v7 v8 wx => C4 wx v6 (.pointer (some ⟨x, 1, none⟩)) (.pointer none) (.pointer none) (.pointer none) ∧ C4 wx v7 (.pointer (some ⟨x, 2, none⟩)) (.pointer none) (.pointer none) (.pointer none) ∧ C4 wx v8 (.pointer (some ⟨x, 5, none⟩)) (.pointer none) (.pointer none) (.pointer none) ∧ Below (w.alloc (.cells #[.string ⟨#[]⟩, .string ⟨#[]⟩, .pointer none, .pointer none, .pointer none, .pointer none, .pointer none, .pointer none, .pointer none, .pointer none, .pointer none, .pointer none, .pointer none, .pointer none] 111)).heap.size (w.alloc (.cells #[.string ⟨#[]⟩, .string ⟨#[]⟩, .pointer none, .pointer none, .pointer none, .pointer none, .pointer none, .pointer none, .pointer none, .pointer none, .pointer none, .pointer none, .pointer none, .pointer none] 111)) wx)
  case first =>
    go_region
    all_goals
      go_wp2_with fail
      go_meet
      refine ⟨?_, ?_, ?_, three_below _ _ _ _⟩
      all_goals first
        | exact nth1 _ _ _ _ _ _ _ _ _ HZ.out
        | exact nth2 _ _ _ _ _ _ _ _ _ (by rw [HZ.out])
        | exact nth3 _ _ _ _ _ _ _ _ _ (by rw [HZ.out])
  case rest =>
    obtain ⟨h6, h7, h8, hb⟩ := hcut
    have H6 := Lib.hid h6
    have H7 := Lib.hid h7
    have H8 := Lib.hid h8
    have R1 := Lib.hid (RR.out.below hb)
    have B1 := Lib.hid (BA.out.trans (hb.mono BA.out.size))
    clear h6 h7 h8 hb RR BA HZ
    obtain ⟨wa, rfl⟩ : ∃ wa : World, wa = wc := ⟨_, rfl⟩
    go_wp2_with fail
    go_cut [9, 10, 11] (fun v9 v10 v11 wx => C4 wx v9 (.pointer none) (.pointer none) (.pointer (some ⟨x, 3, none⟩)) (.pointer none) ∧ C4 wx v10 (.pointer none) (.pointer (some ⟨x, 4, none⟩)) (.pointer none) (.pointer none) ∧ C4 wx v11 (.pointer none) (.pointer (some ⟨x, 6, none⟩)) (.pointer none) (.pointer none) ∧ Below wa.heap.size wa wx)
    case first =>
      go_region
      all_goals
        go_wp2_with fail
        go_meet
        refine ⟨?_, ?_, ?_, three_below _ _ _ _⟩
        all_goals first
          | exact nth1 _ _ _ _ _ _ _ _ _ rfl
          | exact nth2 _ _ _ _ _ _ _ _ _ rfl
          | exact nth3 _ _ _ _ _ _ _ _ _ rfl
    case rest =>
      obtain ⟨h9, h10, h11, hb⟩ := hcut
      have R := Lib.hid (R1.out.below hb)
      have BW := Lib.hid (B1.out.trans (hb.mono B1.out.size))
      have g6 := H6.out.below hb
      have g7 := H7.out.below hb
      have g8 := H8.out.below hb
      clear hb H6 H7 H8 R1 B1
      obtain ⟨wb, rfl⟩ : ∃ wb : World, wb = wc := ⟨_, rfl⟩
      obtain ⟨b6, q6, c6a, c6b, c6c, c6d⟩ := g6.at'
      subst q6
      have l6 : b6 < wb.heap.size := World.block_lt_of_cell? _ _ c6a
      have m6 : b6 ≠ wb.heap.size := by omega
      clear g6
      obtain ⟨b7, q7, c7a, c7b, c7c, c7d⟩ := g7.at'
      subst q7
      have l7 : b7 < wb.heap.size := World.block_lt_of_cell? _ _ c7a
      have m7 : b7 ≠ wb.heap.size := by omega
      clear g7
      obtain ⟨b8, q8, c8a, c8b, c8c, c8d⟩ := g8.at'
      subst q8
      have l8 : b8 < wb.heap.size := World.block_lt_of_cell? _ _ c8a
      have m8 : b8 ≠ wb.heap.size := by omega
      clear g8
      obtain ⟨b9, q9, c9a, c9b, c9c, c9d⟩ := h9.at'
      subst q9
      have l9 : b9 < wb.heap.size := World.block_lt_of_cell? _ _ c9a
      have m9 : b9 ≠ wb.heap.size := by omega
      clear h9
      obtain ⟨b10, q10, c10a, c10b, c10c, c10d⟩ := h10.at'
      subst q10
      have l10 : b10 < wb.heap.size := World.block_lt_of_cell? _ _ c10a
      have m10 : b10 ≠ wb.heap.size := by omega
      clear h10
      obtain ⟨b11, q11, c11a, c11b, c11c, c11d⟩ := h11.at'
      subst q11
      have l11 : b11 < wb.heap.size := World.block_lt_of_cell? _ _ c11a
      have m11 : b11 ≠ wb.heap.size := by omega
      clear h11
      obtain ⟨r0, r1, r2, r3, r4, r5, r6, r7, r8, r9, r10, r11, r12, r13, rf⟩ := R.out
      have f0 := rf 0
      have f1 := rf 1
      have f2 := rf 2
      have f3 := rf 3
      have f4 := rf 4
      have f5 := rf 5
      have f6 := rf 6
      have f7 := rf 7
      have f8 := rf 8
      have f9 := rf 9
      have f10 := rf 10
      have f11 := rf 11
      have f12 := rf 12
      have f13 := rf 13
      have lw : w.heap.size < wb.heap.size := R.out.lt
      have mw : w.heap.size ≠ wb.heap.size := by omega
      clear rf
      go_wp2_with fail
      refine bodyPost_ret (v := .tuple #[.agg #[.string ⟨#[116, 97, 114, 103, 101, 116]⟩, .string ⟨#[115, 115, 98]⟩, .pointer (some ⟨x, 1, none⟩), .pointer none, .pointer none, .pointer none, .pointer (some ⟨x, 2, none⟩), .pointer none, .pointer none, .pointer none, .pointer none, .pointer none, .pointer none, .pointer (some ⟨x, 7, none⟩)], .bool true]) ?_ rfl ⟨rfl, ?_⟩
      · have K := (put14 R.out (.string ⟨#[116, 97, 114, 103, 101, 116]⟩) (.string ⟨#[115, 115, 98]⟩) (.pointer (some ⟨x, 1, none⟩)) (.pointer none) (.pointer none) (.pointer none) (.pointer (some ⟨x, 2, none⟩)) (.pointer none) (.pointer none) (.pointer none) (.pointer none) (.pointer none) (.pointer none) (.pointer (some ⟨x, 7, none⟩))).below ((Below.refl _ _).alloc (Nat.le_refl _) (.cells #[.pointer none, .pointer none, .pointer none, .pointer (some ⟨x, 7, none⟩)] 108))
        obtain ⟨k0, k1, k2, k3, k4, k5, k6, k7, k8, k9, k10, k11, k12, k13, _⟩ := K
        simp [results, Tryz.results56, go_sem, k0, k1, k2, k3, k4, k5, k6, k7, k8, k9, k10, k11, k12, k13]
      · exact (below_put14 BW.out (Nat.le_refl _) _ _ _ _ _ _ _ _ _ _ _ _ _ _).alloc (by have := BW.out.size; simp; omega) _

set_option maxRecDepth 100000 in
set_option maxHeartbeats 4000000 in
theorem shape6 (x : Nat) (w : World) : Calls Tryz.prog 56 #[.int .i64 6, .pointer (some ⟨x, 0, none⟩)] w fun e w' => e = .returned (.tuple #[.agg #[.string ⟨#[101, 110, 100]⟩, .string ⟨#[115, 115]⟩, .pointer (some ⟨x, 1, none⟩), .pointer none, .pointer none, .pointer none, .pointer (some ⟨x, 2, none⟩), .pointer none, .pointer none, .pointer none, .pointer none, .pointer none, .pointer none, .pointer none], .bool true]) ∧ Below w.heap.size w w' := by

  have hz : (w.alloc (.cells #[.string ⟨#[]⟩, .string ⟨#[]⟩, .pointer none, .pointer none, .pointer none, .pointer none, .pointer none, .pointer none, .pointer none, .pointer none, .pointer none, .pointer none, .pointer none, .pointer none] 111)).heap.size = w.heap.size + 1 := by simp
  have hR := C14.new w (.string ⟨#[]⟩) (.string ⟨#[]⟩) (.pointer none) (.pointer none) (.pointer none) (.pointer none) (.pointer none) (.pointer none) (.pointer none) (.pointer none) (.pointer none) (.pointer none) (.pointer none) (.pointer none) 111
  have ba : Below w.heap.size w (w.alloc (.cells #[.string ⟨#[]⟩, .string ⟨#[]⟩, .pointer none, .pointer none, .pointer none, .pointer none, .pointer none, .pointer none, .pointer none, .pointer none, .pointer none, .pointer none, .pointer none, .pointer none] 111)) := (Below.refl _ _).alloc (Nat.le_refl _) _
  have RR := Lib.hid hR
  have BA := Lib.hid ba
  have HZ := Lib.hid hz
  clear hR ba hz
  go_enter Tryz.func56, Tryz.ntmps56
  go_wp2
  go_cut [6, 7, 8] (fun v6 v7 v8 wx => C4 wx v6 (.pointer (some ⟨x, 1, none⟩)) (.pointer none) (.pointer none) (.pointer none) ∧ C4 wx v7 (.pointer (some ⟨x, 2, none⟩)) (.pointer none) (.pointer none) (.pointer none) ∧ C4 wx v8 (.pointer (some ⟨x, 5, none⟩)) (.pointer none) (.pointer none) (.pointer none) ∧ Below (w.alloc (.cells #[.string ⟨#[]⟩, .string ⟨#[]⟩, .pointer none, .pointer none, .pointer none, .pointer none, .pointer none, .pointer none, .pointer none, .pointer none, .pointer none, .pointer none, .pointer none, .pointer none] 111)).heap.size (w.alloc (.cells #[.string ⟨#[]⟩, .string ⟨#[]⟩, .pointer none, .pointer none, .pointer none, .pointer none, .pointer none, .pointer none, .pointer none, .pointer none, .pointer none, .pointer none, .pointer none, .pointer none] 111)) wx)
  case first =>
    go_region
    all_goals
      go_wp2_with fail
      go_meet
      refine ⟨?_, ?_, ?_, three_below _ _ _ _⟩
      all_goals first
        | exact nth1 _ _ _ _ _ _ _ _ _ HZ.out
        | exact nth2 _ _ _ _ _ _ _ _ _ (by rw [HZ.out])
        | exact nth3 _ _ _ _ _ _ _ _ _ (by rw [HZ.out])
  case rest =>
    obtain ⟨h6, h7, h8, hb⟩ := hcut
    have H6 := Lib.hid h6
    have H7 := Lib.hid h7
    have H8 := Lib.hid h8
    have R1 := Lib.hid (RR.out.below hb)
    have B1 := Lib.hid (BA.out.trans (hb.mono BA.out.size))
    clear h6 h7 h8 hb RR BA HZ
    obtain ⟨wa, rfl⟩ : ∃ wa : World, wa = wc := ⟨_, rfl⟩
    go_wp2_with fail
    go_cut [9, 10, 11] (fun v9 v10 v11 wx => C4 wx v9 (.pointer none) (.pointer none) (.pointer (some ⟨x, 3, none⟩)) (.pointer none) ∧ C4 wx v10 (.pointer none) (.pointer (some ⟨x, 4, none⟩)) (.pointer none) (.pointer none) ∧ C4 wx v11 (.pointer none) (.pointer (some ⟨x, 6, none⟩)) (.pointer none) (.pointer none) ∧ Below wa.heap.size wa wx)
    case first =>
      go_region
      all_goals
        go_wp2_with fail
        go_meet
        refine ⟨?_, ?_, ?_, three_below _ _ _ _⟩
        all_goals first
          | exact nth1 _ _ _ _ _ _ _ _ _ rfl
          | exact nth2 _ _ _ _ _ _ _ _ _ rfl
          | exact nth3 _ _ _ _ _ _ _ _ _ rfl
    case rest =>
      obtain ⟨h9, h10, h11, hb⟩ := hcut
      have R := Lib.hid (R1.out.below hb)
      have BW := Lib.hid (B1.out.trans (hb.mono B1.out.size))
      have g6 := H6.out.below hb
      have g7 := H7.out.below hb
      have g8 := H8.out.below hb
      clear hb H6 H7 H8 R1 B1
      obtain ⟨wb, rfl⟩ : ∃ wb : World, wb = wc := ⟨_, rfl⟩
      obtain ⟨b6, q6, c6a, c6b, c6c, c6d⟩ := g6.at'
      subst q6
      have l6 : b6 < wb.heap.size := World.block_lt_of_cell? _ _ c6a
      have m6 : b6 ≠ wb.heap.size := by omega
      clear g6
      obtain ⟨b7, q7, c7a, c7b, c7c, c7d⟩ := g7.at'
      subst q7
      have l7 : b7 < wb.heap.size := World.block_lt_of_cell? _ _ c7a
      have m7 : b7 ≠ wb.heap.size := by omega
      clear g7
      obtain ⟨b8, q8, c8a, c8b, c8c, c8d⟩ := g8.at'
      subst q8
      have l8 : b8 < wb.heap.size := World.block_lt_of_cell? _ _ c8a
      have m8 : b8 ≠ wb.heap.size := by omega
      clear g8
      obtain ⟨b9, q9, c9a, c9b, c9c, c9d⟩ := h9.at'
      subst q9
      have l9 : b9 < wb.heap.size := World.block_lt_of_cell? _ _ c9a
      have m9 : b9 ≠ wb.heap.size := by omega
      clear h9
      obtain ⟨b10, q10, c10a, c10b, c10c, c10d⟩ := h10.at'
      subst q10
      have l10 : b10 < wb.heap.size := World.block_lt_of_cell? _ _ c10a
      have m10 : b10 ≠ wb.heap.size := by omega
      clear h10
      obtain ⟨b11, q11, c11a, c11b, c11c, c11d⟩ := h11.at'
      subst q11
      have l11 : b11 < wb.heap.size := World.block_lt_of_cell? _ _ c11a
      have m11 : b11 ≠ wb.heap.size := by omega
      clear h11
      obtain ⟨r0, r1, r2, r3, r4, r5, r6, r7, r8, r9, r10, r11, r12, r13, rf⟩ := R.out
      have f0 := rf 0
      have f1 := rf 1
      have f2 := rf 2
      have f3 := rf 3
      have f4 := rf 4
      have f5 := rf 5
      have f6 := rf 6
      have f7 := rf 7
      have f8 := rf 8
      have f9 := rf 9
      have f10 := rf 10
      have f11 := rf 11
      have f12 := rf 12
      have f13 := rf 13
      have lw : w.heap.size < wb.heap.size := R.out.lt
      have mw : w.heap.size ≠ wb.heap.size := by omega
      clear rf
      go_wp2_with fail
      refine bodyPost_ret (v := .tuple #[.agg #[.string ⟨#[101, 110, 100]⟩, .string ⟨#[115, 115]⟩, .pointer (some ⟨x, 1, none⟩), .pointer none, .pointer none, .pointer none, .pointer (some ⟨x, 2, none⟩), .pointer none, .pointer none, .pointer none, .pointer none, .pointer none, .pointer none, .pointer none], .bool true]) ?_ rfl ⟨rfl, ?_⟩
      · have K := (put14 R.out (.string ⟨#[101, 110, 100]⟩) (.string ⟨#[115, 115]⟩) (.pointer (some ⟨x, 1, none⟩)) (.pointer none) (.pointer none) (.pointer none) (.pointer (some ⟨x, 2, none⟩)) (.pointer none) (.pointer none) (.pointer none) (.pointer none) (.pointer none) (.pointer none) (.pointer none)).below ((Below.refl _ _).alloc (Nat.le_refl _) (.cells #[.pointer none, .pointer none, .pointer none, .pointer (some ⟨x, 7, none⟩)] 108))
        obtain ⟨k0, k1, k2, k3, k4, k5, k6, k7, k8, k9, k10, k11, k12, k13, _⟩ := K
        simp [results, Tryz.results56, go_sem, k0, k1, k2, k3, k4, k5, k6, k7, k8, k9, k10, k11, k12, k13]
      · exact (below_put14 BW.out (Nat.le_refl _) _ _ _ _ _ _ _ _ _ _ _ _ _ _).alloc (by have := BW.out.size; simp; omega) _

set_option maxRecDepth 100000 in
set_option maxHeartbeats 4000000 in
theorem shape7 (x : Nat) (w : World) : Calls Tryz.prog 56 #[.int .i64 7, .pointer (some ⟨x, 0, none⟩)] w fun e w' => e = .returned (.tuple #[.agg #[.string ⟨#[112, 105, 99, 107]⟩, .string ⟨#[116, 110]⟩, .pointer none, .pointer none, .pointer (some ⟨x, 3, none⟩), .pointer none, .pointer none, .pointer (some ⟨x, 6, none⟩), .pointer none, .pointer none, .pointer none, .pointer none, .pointer none, .pointer none], .bool true]) ∧ Below w.heap.size w w' := by

  have hz : (w.alloc (.cells #[.string ⟨#[]⟩, .string ⟨#[]⟩, .pointer none, .pointer none, .pointer none, .pointer none, .pointer none, .pointer none, .pointer none, .pointer none, .pointer none, .pointer none, .pointer none, .pointer none] 111)).heap.size = w.heap.size + 1 := by simp
  have hR := C14.new w (.string ⟨#[]⟩) (.string ⟨#[]⟩) (.pointer none) (.pointer none) (.pointer none) (.pointer none) (.pointer none) (.pointer none) (.pointer none) (.pointer none) (.pointer none) (.pointer none) (.pointer none) (.pointer none) 111
  have ba : Below w.heap.size w (w.alloc (.cells #[.string ⟨#[]⟩, .string ⟨#[]⟩, .pointer none, .pointer none, .pointer none, .pointer none, .pointer none, .pointer none, .pointer none, .pointer none, .pointer none, .pointer none, .pointer none, .pointer none] 111)) := (Below.refl _ _).alloc (Nat.le_refl _) _
  have RR := Lib.hid hR
  have BA := Lib.hid ba
  have HZ := Lib.hid hz
  clear hR ba hz
  go_enter Tryz.func56, Tryz.ntmps56
  go_wp2
  go_cut [6, 7, 8] (fun v6 v7 v8 wx => C4 wx v6 (.pointer (some ⟨x, 1, none⟩)) (.pointer none) (.pointer none) (.pointer none) ∧ C4 wx v7 (.pointer (some ⟨x, 2, none⟩)) (.pointer none) (.pointer none) (.pointer none) ∧ C4 wx v8 (.pointer (some ⟨x, 5, none⟩)) (.pointer none) (.pointer none) (.pointer none) ∧ Below (w.alloc (.cells #[.string ⟨#[]⟩, .string ⟨#[]⟩, .pointer none, .pointer none, .pointer none, .pointer none, .pointer none, .pointer none, .pointer none, .pointer none, .pointer none, .pointer none, .pointer none, .pointer none] 111)).heap.size (w.alloc (.cells #[.string ⟨#[]⟩, .string ⟨#[]⟩, .pointer none, .pointer none, .pointer none, .pointer none, .pointer none, .pointer none, .pointer none, .pointer none, .pointer none, .pointer none, .pointer none, .pointer none] 111)) wx)
  case first =>
    go_region
    all_goals
      go_wp2_with fail
      go_meet
      refine ⟨?_, ?_, ?_, three_below _ _ _ _⟩
      all_goals first
        | exact nth1 _ _ _ _ _ _ _ _ _ HZ.out
        | exact nth2 _ _ _ _ _ _ _ _ _ (by rw [HZ.out])
        | exact nth3 _ _ _ _ _ _ _ _ _ (by rw [HZ.out])
  case rest =>
    obtain ⟨h6, h7, h8, hb⟩ := hcut
    have H6 := Lib.hid h6
    have H7 := Lib.hid h7
    have H8 := Lib.hid h8
    have R1 := Lib.hid (RR.out.below hb)
    have B1 := Lib.hid (BA.out.trans (hb.mono BA.out.size))
    clear h6 h7 h8 hb RR BA HZ
    obtain ⟨wa, rfl⟩ : ∃ wa : World, wa = wc := ⟨_, rfl⟩
    go_wp2_with fail
    go_cut [9, 10, 11] (fun v9 v10 v11 wx => C4 wx v9 (.pointer none) (.pointer none) (.pointer (some ⟨x, 3, none⟩)) (.pointer none) ∧ C4 wx v10 (.pointer none) (.pointer (some ⟨x, 4, none⟩)) (.pointer none) (.pointer none) ∧ C4 wx v11 (.pointer none) (.pointer (some ⟨x, 6, none⟩)) (.pointer none) (.pointer none) ∧ Below wa.heap.size wa wx)
    case first =>
      go_region
      all_goals
        go_wp2_with fail
        go_meet
        refine ⟨?_, ?_, ?_, three_below _ _ _ _⟩
        all_goals first
          | exact nth1 _ _ _ _ _ _ _ _ _ rfl
          | exact nth2 _ _ _ _ _ _ _ _ _ rfl
          | exact nth3 _ _ _ _ _ _ _ _ _ rfl
    case rest =>
      obtain ⟨h9, h10, h11, hb⟩ := hcut
      have R := Lib.hid (R1.out.below hb)
      have BW := Lib.hid (B1.out.trans (hb.mono B1.out.size))
      have g6 := H6.out.below hb
      have g7 := H7.out.below hb
      have g8 := H8.out.below hb
      clear hb H6 H7 H8 R1 B1
      obtain ⟨wb, rfl⟩ : ∃ wb : World, wb = wc := ⟨_, rfl⟩
      obtain ⟨b6, q6, c6a, c6b, c6c, c6d⟩ := g6.at'
      subst q6
      have l6 : b6 < wb.heap.size := World.block_lt_of_cell? _ _ c6a
      have m6 : b6 ≠ wb.heap.size := by omega
      clear g6
      obtain ⟨b7, q7, c7a, c7b, c7c, c7d⟩ := g7.at'
      subst q7
      have l7 : b7 < wb.heap.size := World.block_lt_of_cell? _ _ c7a
      have m7 : b7 ≠ wb.heap.size := by omega
      clear g7
      obtain ⟨b8, q8, c8a, c8b, c8c, c8d⟩ := g8.at'
      subst q8
      have l8 : b8 < wb.heap.size := World.block_lt_of_cell? _ _ c8a
      have m8 : b8 ≠ wb.heap.size := by omega
      clear g8
      obtain ⟨b9, q9, c9a, c9b, c9c, c9d⟩ := h9.at'
      subst q9
      have l9 : b9 < wb.heap.size := World.block_lt_of_cell? _ _ c9a
      have m9 : b9 ≠ wb.heap.size := by omega
      clear h9
      obtain ⟨b10, q10, c10a, c10b, c10c, c10d⟩ := h10.at'
      subst q10
      have l10 : b10 < wb.heap.size := World.block_lt_of_cell? _ _ c10a
      have m10 : b10 ≠ wb.heap.size := by omega
      clear h10
      obtain ⟨b11, q11, c11a, c11b, c11c, c11d⟩ := h11.at'
      subst q11
      have l11 : b11 < wb.heap.size := World.block_lt_of_cell? _ _ c11a
      have m11 : b11 ≠ wb.heap.size := by omega
      clear h11
      obtain ⟨r0, r1, r2, r3, r4, r5, r6, r7, r8, r9, r10, r11, r12, r13, rf⟩ := R.out
      have f0 := rf 0
      have f1 := rf 1
      have f2 := rf 2
      have f3 := rf 3
      have f4 := rf 4
      have f5 := rf 5
      have f6 := rf 6
      have f7 := rf 7
      have f8 := rf 8
      have f9 := rf 9
      have f10 := rf 10
      have f11 := rf 11
      have f12 := rf 12
      have f13 := rf 13
      have lw : w.heap.size < wb.heap.size := R.out.lt
      have mw : w.heap.size ≠ wb.heap.size := by omega
      clear rf
      go_wp2_with fail
      refine bodyPost_ret (v := .tuple #[.agg #[.string ⟨#[112, 105, 99, 107]⟩, .string ⟨#[116, 110]⟩, .pointer none, .pointer none, .pointer (some ⟨x, 3, none⟩), .pointer none, .pointer none, .pointer (some ⟨x, 6, none⟩), .pointer none, .pointer none, .pointer none, .pointer none, .pointer none, .pointer none], .bool true]) ?_ rfl ⟨rfl, ?_⟩
      · have K := (put14 R.out (.string ⟨#[112, 105, 99, 107]⟩) (.string ⟨#[116, 110]⟩) (.pointer none) (.pointer none) (.pointer (some ⟨x, 3, none⟩)) (.pointer none) (.pointer none) (.pointer (some ⟨x, 6, none⟩)) (.pointer none) (.pointer none) (.pointer none) (.pointer none) (.pointer none) (.pointer none)).below ((Below.refl _ _).alloc (Nat.le_refl _) (.cells #[.pointer none, .pointer none, .pointer none, .pointer (some ⟨x, 7, none⟩)] 108))
        obtain ⟨k0, k1, k2, k3, k4, k5, k6, k7, k8, k9, k10, k11, k12, k13, _⟩ := K
        simp [results, Tryz.results56, go_sem, k0, k1, k2, k3, k4, k5, k6, k7, k8, k9, k10, k11, k12, k13]
      · exact (below_put14 BW.out (Nat.le_refl _) _ _ _ _ _ _ _ _ _ _ _ _ _ _).alloc (by have := BW.out.size; simp; omega) _
end Go.Proofs.YtinabbdecmjcpaaGreatDoor.Ev
