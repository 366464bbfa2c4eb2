/- Contracts of event.Words and of slices.Index over strings: the words of all kinds; the place of a word among words. -/
import Derived.Test.YtinabbdecmjcpaaGreatDoorG09
import Derived.Test.YtinabbdecmjcpaaGreatDoorGShapeA
import Derived.Test.YtinabbdecmjcpaaGreatDoorGShapeB
import Derived.Test.YtinabbdecmjcpaaGreatDoorGShapeC
import Derived.Test.YtinabbdecmjcpaaGreatDoorGShapeD
namespace Go.Proofs.YtinabbdecmjcpaaGreatDoor.Ev
open Go.RowKit Go.Proofs.YtinabbdecmjcpaaGreatDoor Go.Proofs.YtinabbdecmjcpaaGreatDoor.Plain Go.Proofs.YtinabbdecmjcpaaGreatDoor.Words Go.Proofs.YtinabbdecmjcpaaGreatDoor.Named Go.Proofs.YtinabbdecmjcpaaGreatDoor.Hex Go.Proofs.YtinabbdecmjcpaaGreatDoor.Number Go.Proofs.YtinabbdecmjcpaaGreatDoor.Queue Go.Proofs.YtinabbdecmjcpaaGreatDoor.Line
set_option linter.unusedVariables false

/-- shapeOf, of any kind that there is. -/
theorem shape_any (k : Nat) (h1 : 1 ≤ k) (h2 : k ≤ 15) (x : Nat) (w : World) : Calls Tryz.prog 56 #[.int .i64 (k : Int), .pointer (some ⟨x, 0, none⟩)] w fun e w' => e = .returned (.tuple #[.agg #[.string (S (wordN k)), .string (S ((slotsN k).map sign)), spN (sp0 x) (slotsN k) 0, spN (sp1 x) (slotsN k) 0, spN (sp2 x) (slotsN k) 0, spN (sp3 x) (slotsN k) 0, spN (sp0 x) (slotsN k) 1, spN (sp1 x) (slotsN k) 1, spN (sp2 x) (slotsN k) 1, spN (sp3 x) (slotsN k) 1, spN (sp0 x) (slotsN k) 2, spN (sp1 x) (slotsN k) 2, spN (sp2 x) (slotsN k) 2, spN (sp3 x) (slotsN k) 2], .bool true]) ∧ Below w.heap.size w w' := by
  have : k = 1 ∨ k = 2 ∨ k = 3 ∨ k = 4 ∨ k = 5 ∨ k = 6 ∨ k = 7 ∨ k = 8 ∨ k = 9 ∨ k = 10 ∨ k = 11 ∨ k = 12 ∨ k = 13 ∨ k = 14 ∨ k = 15 := by omega
  rcases this with rfl | rfl | rfl | rfl | rfl | rfl | rfl | rfl | rfl | rfl | rfl | rfl | rfl | rfl | rfl
  · exact shape1 x w
  · exact shape2 x w
  · exact shape3 x w
  · exact shape4 x w
  · exact shape5 x w
  · exact shape6 x w
  · exact shape7 x w
  · exact shape8 x w
  · exact shape9 x w
  · exact shape10 x w
  · exact shape11 x w
  · exact shape12 x w
  · exact shape13 x w
  · exact shape14 x w
  · exact shape15 x w
theorem spN_ptr (f : Slot → Value) (hf : ∀ s, ∃ p, f s = .pointer p) (ss : List Slot) (i : Nat) : ∃ p, spN f ss i = .pointer p := by
  unfold spN
  cases ss[i]? with
  | none => exact ⟨none, rfl⟩
  | some s => exact hf s
theorem sp0_ptr (x : Nat) (s : Slot) : ∃ p, sp0 x s = .pointer p := by cases s <;> exact ⟨_, rfl⟩
theorem sp1_ptr (x : Nat) (s : Slot) : ∃ p, sp1 x s = .pointer p := by cases s <;> exact ⟨_, rfl⟩
theorem sp2_ptr (x : Nat) (s : Slot) : ∃ p, sp2 x s = .pointer p := by cases s <;> exact ⟨_, rfl⟩
theorem sp3_ptr (x : Nat) (s : Slot) : ∃ p, sp3 x s = .pointer p := by cases s <;> exact ⟨_, rfl⟩
theorem shape_word (k : Nat) (h1 : 1 ≤ k) (h2 : k ≤ 15) (x : Nat) (w : World) : Calls Tryz.prog 56 #[.int .i64 (k : Int), .pointer (some ⟨x, 0, none⟩)] w fun e w' => ∃ (s1 : ByteArray) (p2 p3 p4 p5 p6 p7 p8 p9 p10 p11 p12 p13 : Option Addr), e = .returned (.tuple #[.agg #[.string (S (wordN k)), .string s1, .pointer p2, .pointer p3, .pointer p4, .pointer p5, .pointer p6, .pointer p7, .pointer p8, .pointer p9, .pointer p10, .pointer p11, .pointer p12, .pointer p13], .bool true]) ∧ Below w.heap.size w w' := by
  refine (shape_any k h1 h2 x w).mono ?_
  rintro e w' ⟨rfl, hb⟩
  obtain ⟨p2, e2⟩ := spN_ptr (sp0 x) (sp0_ptr x) (slotsN k) 0
  obtain ⟨p3, e3⟩ := spN_ptr (sp1 x) (sp1_ptr x) (slotsN k) 0
  obtain ⟨p4, e4⟩ := spN_ptr (sp2 x) (sp2_ptr x) (slotsN k) 0
  obtain ⟨p5, e5⟩ := spN_ptr (sp3 x) (sp3_ptr x) (slotsN k) 0
  obtain ⟨p6, e6⟩ := spN_ptr (sp0 x) (sp0_ptr x) (slotsN k) 1
  obtain ⟨p7, e7⟩ := spN_ptr (sp1 x) (sp1_ptr x) (slotsN k) 1
  obtain ⟨p8, e8⟩ := spN_ptr (sp2 x) (sp2_ptr x) (slotsN k) 1
  obtain ⟨p9, e9⟩ := spN_ptr (sp3 x) (sp3_ptr x) (slotsN k) 1
  obtain ⟨p10, e10⟩ := spN_ptr (sp0 x) (sp0_ptr x) (slotsN k) 2
  obtain ⟨p11, e11⟩ := spN_ptr (sp1 x) (sp1_ptr x) (slotsN k) 2
  obtain ⟨p12, e12⟩ := spN_ptr (sp2 x) (sp2_ptr x) (slotsN k) 2
  obtain ⟨p13, e13⟩ := spN_ptr (sp3 x) (sp3_ptr x) (slotsN k) 2
  rw [e2, e3, e4, e5, e6, e7, e8, e9, e10, e11, e12, e13]
  exact ⟨_, p2, p3, p4, p5, p6, p7, p8, p9, p10, p11, p12, p13, rfl, hb⟩

def wordsL : List (List UInt8) := (List.range 15).map fun i => wordN (i + 1)
theorem wordsL_get (k : Nat) (h : k < 15) : wordsL[k]? = some (wordN (k + 1)) := by
  unfold wordsL
  rw [List.getElem?_map, List.getElem?_range h]
  rfl
theorem wordsL_len : wordsL.length = 15 := by simp [wordsL]

theorem new1 (X : World) (K : Nat) (a : Value) (t : TypeId) (hK : K = X.heap.size) : ∀ j u, [a][j]? = some u → (X.alloc (.cells #[a] t)).cell? (Addr.add ⟨K, 0, none⟩ j) = some u := by
  subst hK
  exact cell_one_new _ _ _
def WordsRel (w : World) (v i : Value) (wr : World) : Prop := ∃ k j : Nat, k ≤ 15 ∧ Hid (j = k + 1) ∧ i = .int .i64 (j : Int) ∧ v = .slice (some ⟨w.heap.size, 0, none⟩) k 15 ∧ Hid (wr.ownsRow w.heap.size 9 1 (.slice (some ⟨w.heap.size, 0, none⟩) k 15) k ((wordsL.take k).map fun l => .string (S l))) ∧ Hid (Below w.heap.size w wr)
set_option maxRecDepth 100000 in
set_option maxHeartbeats 4000000 in
theorem evwords (w : World) : Calls Tryz.prog 67 #[] w fun e w' => e = .returned (.slice (some ⟨w.heap.size, 0, none⟩) 15 15) ∧ (∀ i (h : i < wordsL.length), w'.cell? ⟨w.heap.size, i, none⟩ = some (.string (S wordsL[i]))) ∧ Below w.heap.size w w' := by
  obtain ⟨i0, hi, hz0, hz1, hz2⟩ := info_parts info9
  have HSH := Lib.hid shape_word
  go_enter Tryz.func67, Tryz.ntmps67
  go_wp2_with (at_make; refine wpList_make_own _ rfl _ _ 33 rfl w.heap.size 9 i0 _ 1 Tryz.underlying33 hi hz0 hz1 .i64 .i64 _ 15 rfl rfl (by rfl) (by rw [hz2]; omega) (by unfold maxLen; omega) (Nat.le_refl _) ?_; intro w2 hown2 hgrow2)
  have hb2 : Below w.heap.size w w2 := (Below.refl _ _).grown hgrow2 (Nat.le_refl _) (fun k hk => by cases hk)
  have H2 := Lib.hid hown2
  have B2 := Lib.hid hb2
  clear hown2 hb2 hgrow2
  go_loopw [1, 2] (fun v i wr => WordsRel w v i wr) (fun _ i _ => 16 - (intOf i).toNat)
  case atStart => exact ⟨0, 1, by omega, Lib.hid rfl, rfl, rfl, H2, B2⟩
  case round =>
    obtain ⟨k, j, hk, hj, rfl, rfl, hown, hbel⟩ := hrel
    by_cases hlt : k < 15
    · have t : decide ((j : Int) ≤ 15) = true := by have := hj.out; simp; omega
      have wj : IntKind.i64.wrap ((j : Int) + 1) = (j : Int) + 1 := IntWalk.i64_in _ (by have := hj.out; omega)
      have j1 : 1 ≤ j := by have := hj.out; omega
      have j2 : j ≤ 15 := by have := hj.out; omega
      go_wp2_with (first | (go_at_call 56; refine (HSH.out j j1 j2 _ _).mono ?_; rintro e w3 ⟨s1, p2, p3, p4, p5, p6, p7, p8, p9, p10, p11, p12, p13, rfl, hb3⟩; have X3 := Lib.hid hb3; have hs3 := hb3.size; clear hb3) | (at_builtin; go_loud (refine wpList_append_fits _ rfl _ _ 33 rfl w.heap.size 9 i0 1 Tryz.underlying33 hi hz1 w.heap.size k 15 _ rfl (World.ownsRow.alloc (World.ownsRow.alloc (own_block (World.ownsRow.alloc hown.out _) (X3.out.block _ (own_lt (World.ownsRow.alloc hown.out _)))) _) _) ⟨_, 0, none⟩ 1 1 [.string (S (wordN j))] rfl rfl (new1 _ _ _ _ (by simp)) (fun x hx => by simp at hx; subst hx; rfl) (by omega) ?_); intro w4 hown4 hgrow4))
      have hs0 := hbel.out.size
      have hG := own_lt hown.out
      go_roundw
      case rel =>
        refine ⟨k + 1, j + 1, by omega, Lib.hid (by rw [hj.out]), by go_num, rfl, Lib.hid ?_, Lib.hid ?_⟩
        · have e : wordsL.take (k + 1) = wordsL.take k ++ [wordN j] := by rw [hj.out]; exact take_snoc (wordsL_get k hlt)
          rw [e, List.map_append]
          exact hown4
        · have b3 : Below w.heap.size w w3 := hbel.out.trans (((Below.refl _ _).alloc (Nat.le_refl _) _).trans (X3.out.mono (by simp)) |>.mono hs0)
          exact ((b3.alloc b3.size _).alloc (by have := b3.size; simp; omega) _).grown hgrow4 (by have := b3.size; simp; omega) (fun k hk => by cases hk; exact Nat.le_refl _)
      case measure => have := hj.out; simp [intOf]; omega
    · have t : decide ((j : Int) ≤ 15) = false := by have := hj.out; simp; omega
      obtain rfl : k = 15 := by omega
      go_wp2
      go_ret
      refine ⟨rfl, fun i hi => ?_, hbel.out⟩
      have h := hown.out
      rw [List.take_of_length_le (by rw [wordsL_len]; exact Nat.le_refl _)] at h
      rw [World.ownsRow.cellAt h i (by rw [wordsL_len] at hi; omega)]
      simp [hi]

set_option maxRecDepth 100000 in
set_option maxHeartbeats 4000000 in
/-- slices.Index, of strings. -/
theorem index_any (ws : List (List UInt8)) (n g cap : Nat) (s : ByteArray) (w : World) (hN : n = ws.length) (hn : n ≤ 1000000) (hc : ∀ i (h : i < ws.length), w.cell? ⟨g, i, none⟩ = some (.string (S ws[i]))) :
    Calls Tryz.prog 66 #[.slice (some ⟨g, 0, none⟩) n cap, .string s] w fun e w' => ∃ r : Int, e = .returned (.int .i64 r) ∧ w = w' ∧ ((∃ (k : Nat) (h : k < ws.length), r = (k : Int) ∧ ws[k] = L s) ∨ (r = -1 ∧ ∀ k (h : k < ws.length), ws[k] ≠ L s)) := by
  have HC := Lib.hid hc
  clear hc
  have HN := Lib.hid hN
  clear hN
  go_enter Tryz.func66, Tryz.ntmps66
  go_wp2
  go_loopw [8] (fun v wr => ∃ k : Nat, k ≤ n ∧ v = .int .i64 (k : Int) ∧ w = wr ∧ Hid (∀ j (h : j < ws.length), j < k → ws[j] ≠ L s)) (fun v _ => n - (intOf v).toNat)
  case atStart => exact ⟨0, by omega, rfl, rfl, Lib.hid fun j h hj => absurd hj (by omega)⟩
  case round =>
    obtain ⟨k, hk, rfl, rfl, hb⟩ := hrel
    by_cases hlt : k < n
    · have hl : k < ws.length := by have := HN.out; omega
      have c := HC.out k hl
      have wk : IntKind.i64.wrap ((k : Int) + 1) = (k : Int) + 1 := IntWalk.i64_in _ (by omega)
      by_cases he : ws[k] = L s
      · have t : (s.toList == (S ws[k]).toList) = true := by rw [he, S_L]; simp
        have HE := Lib.hid he
        clear he
        generalize hy : S ws[k] = y at c t
        clear hy
        go_wp2
        go_ret
        exact ⟨_, rfl, rfl, .inl ⟨k, hl, rfl, HE.out⟩⟩
      · have t : (s.toList == (S ws[k]).toList) = false := by
          rw [beq_eq_false_iff_ne]
          intro e
          rw [ByteArray.toList_eq, ByteArray.toList_eq] at e
          exact he e.symm
        have HE := Lib.hid he
        clear he
        generalize hy : S ws[k] = y at c t
        clear hy
        have t2 : ¬ s.toList = y.toList := by rw [beq_eq_false_iff_ne] at t; exact t
        go_wp2
        go_roundw
        case rel =>
          refine ⟨k + 1, by omega, by go_num, by first | rfl | trivial, Lib.hid fun j h hj => ?_⟩
          by_cases e : j = k
          · subst e; exact HE.out
          · exact hb.out j h (by omega)
        case measure => simp [intOf]; omega
    · go_wp2
      go_ret
      exact ⟨_, rfl, rfl, .inr ⟨rfl, fun j h => hb.out j h (by have := HN.out; omega)⟩⟩
end Go.Proofs.YtinabbdecmjcpaaGreatDoor.Ev
