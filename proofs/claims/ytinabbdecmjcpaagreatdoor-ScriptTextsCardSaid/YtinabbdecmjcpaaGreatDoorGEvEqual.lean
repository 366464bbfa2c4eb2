/- The contract of event's Same. -/
import Derived.Test.YtinabbdecmjcpaaGreatDoorGEvPrint
import Derived.Test.YtinabbdecmjcpaaGreatDoorGShelf
namespace Go.Proofs.YtinabbdecmjcpaaGreatDoor.Ev
open Go.RowKit Go.Proofs.YtinabbdecmjcpaaGreatDoor Go.Proofs.YtinabbdecmjcpaaGreatDoor.Plain Go.Proofs.YtinabbdecmjcpaaGreatDoor.Words Go.Proofs.YtinabbdecmjcpaaGreatDoor.Named Go.Proofs.YtinabbdecmjcpaaGreatDoor.Hex Go.Proofs.YtinabbdecmjcpaaGreatDoor.Number
open Go.Lib (decDigits)
set_option linter.unusedVariables false

theorem conv_row {w : World} {v : Value} {l : List UInt8} (h : BRow w v l) : (convert 42 9 v).run Tryz.prog w = .ok (.string (S l)) w := by
  rcases h with ⟨rfl, a, cap, rfl⟩ | ⟨g, o, cap, rfl, _, hc⟩
  · exact run_convert_bytes_zero (P := Tryz.prog) w 42 5 Tryz.underlying42 Tryz.underlying5 a cap 9 Tryz.underlying9
  · exact run_convert_bytes_back (P := Tryz.prog) w 42 9 5 ⟨g, o, none⟩ cap l Tryz.underlying42 Tryz.underlying5 Tryz.underlying9 (fun j hj => by
      rw [addr_add]
      exact hc j hj)
theorem beq_any (a b : List UInt8) (v1 v2 : Value) (w : World) (h1 : BRow w v1 a) (h2 : BRow w v2 b) : Calls Tryz.prog 81 #[v1, v2] w fun e w' => e = .returned (.bool (decide (a = b))) ∧ w = w' := by
  refine (Tryz.bytes_Equal_strs v1 v2 (S a) (S b) w (conv_row h1) (conv_row h2)).mono ?_
  rintro e w' ⟨rfl, rfl⟩
  refine ⟨?_, rfl⟩
  congr 2
  rw [ByteArray.toList_eq, ByteArray.toList_eq]
  show (a == b) = _
  rw [Bool.eq_iff_iff]
  simp

set_option maxRecDepth 100000 in
set_option maxHeartbeats 4000000 in
theorem same17 (k se st : Int) (tn : ByteArray) (n m b : Int) (v : Value) (d : List UInt8) (k' se' st' : Int) (tn' : ByteArray) (n' m' b' : Int) (v' : Value) (d' : List UInt8) (w : World) (hv : BRow w v d) (hv' : BRow w v' d') :
    Calls Tryz.prog 58 #[.agg #[.int .i64 k, .int .i64 se, .int .i64 st, .string tn, .int .u64 n, .int .i64 m, .int .u64 b, v], .agg #[.int .i64 k', .int .i64 se', .int .i64 st', .string tn', .int .u64 n', .int .i64 m', .int .u64 b', v']] w
      fun e w' => e = .returned (.bool ((k == k') && (se == se') && (st == st') && (tn.toList == tn'.toList) && (n == n') && (m == m') && (b == b') && decide (d = d'))) ∧ Below w.heap.size w w' := by
  have bb : ∀ o o', Below w.heap.size w ((w.alloc o).alloc o') := fun o o' => ((Below.refl _ _).alloc (Nat.le_refl _) _).alloc (by simp) _
  have HS := Lib.hid (beq_any d d' v v' _ (brow_below (bb (.cells #[.int .i64 k, .int .i64 se, .int .i64 st, .string tn, .int .u64 n, .int .i64 m, .int .u64 b, v] 44) (.cells #[.int .i64 k', .int .i64 se', .int .i64 st', .string tn', .int .u64 n', .int .i64 m', .int .u64 b', v'] 44)) hv) (brow_below (bb _ _) hv'))
  obtain ⟨a1, c1, rfl⟩ := brow_form hv
  obtain ⟨a2, c2, rfl⟩ := brow_form hv'
  have B := Lib.hid (fun o o' => bb o o')
  clear bb hv hv'
  cases h0 : (k == k')
  · simp only [Bool.false_and]
    go_enter Tryz.func58, Tryz.ntmps58
    go_wp2
    go_ret
    exact ⟨rfl, B.out _ _⟩
  cases h1 : (se == se')
  · simp only [Bool.and_false, Bool.false_and]
    go_enter Tryz.func58, Tryz.ntmps58
    go_wp2
    go_ret
    exact ⟨rfl, B.out _ _⟩
  cases h2 : (st == st')
  · simp only [Bool.true_and, Bool.and_false, Bool.false_and]
    go_enter Tryz.func58, Tryz.ntmps58
    go_wp2
    go_ret
    exact ⟨rfl, B.out _ _⟩
  cases h3 : (tn.toList == tn'.toList)
  · simp only [Bool.true_and, Bool.and_false, Bool.false_and]
    go_enter Tryz.func58, Tryz.ntmps58
    go_wp2
    go_ret
    exact ⟨rfl, B.out _ _⟩
  cases h4 : (n == n')
  · simp only [Bool.true_and, Bool.and_false, Bool.false_and]
    go_enter Tryz.func58, Tryz.ntmps58
    go_wp2
    go_ret
    exact ⟨rfl, B.out _ _⟩
  cases h5 : (m == m')
  · simp only [Bool.true_and, Bool.and_false, Bool.false_and]
    go_enter Tryz.func58, Tryz.ntmps58
    go_wp2
    go_ret
    exact ⟨rfl, B.out _ _⟩
  cases h6 : (b == b')
  · simp only [Bool.true_and, Bool.and_false, Bool.false_and]
    go_enter Tryz.func58, Tryz.ntmps58
    go_wp2
    go_ret
    exact ⟨rfl, B.out _ _⟩
  simp only [Bool.true_and]
  go_enter Tryz.func58, Tryz.ntmps58
  go_wp2_with (go_at_call 81; refine HS.out.mono ?_; rintro e w1 ⟨rfl, rfl⟩)
  go_ret
  exact ⟨rfl, B.out _ _⟩
/-- Same, of two events. -/
theorem sameEv17 (a b : Ev) (va vb : Value) (w : World) (hva : BRow w va a.data) (hvb : BRow w vb b.data) :
    Calls Tryz.prog 58 #[evV a va, evV b vb] w fun e w' => e = .returned (.bool (sameB a b)) ∧ Below w.heap.size w w' := by
  have h := same17 a.kind a.session a.stream a.tenant (a.n : Int) a.m (a.bits : Int) va a.data b.kind b.session b.stream b.tenant (b.n : Int) b.m (b.bits : Int) vb b.data w hva hvb
  rw [cast_beq, cast_beq] at h
  exact h
end Go.Proofs.YtinabbdecmjcpaaGreatDoor.Ev
