/- Contracts of strconv.FormatUint at base 10 and of name.Digits: the digits of any number; the table of powers of ten is asked for. The lines follow the kit's own proof of FormatInt. -/
import Derived.Lib.ItoaWalk
import Derived.Lib.ItoaMem
import Derived.Lib.AppendIntMem
import Derived.Lib.LaidTab
import Derived.BigCall
import Derived.BigGuard
import Derived.Test.YtinabbdecmjcpaaDoorGShelf
import Derived.Test.YtinabbdecmjcpaaDoorG01
namespace Go.Proofs.YtinabbdecmjcpaaDoor.Number
open Go.RowKit Go.Sort Go.Proofs.YtinabbdecmjcpaaDoor Go.Proofs.YtinabbdecmjcpaaDoor.Plain Go.Proofs.YtinabbdecmjcpaaDoor.Words
open Go.Lib (decDigits nDigits)
set_option linter.unusedVariables false

/-- The table of powers of ten is as the text lays it. -/
def Tab (w : World) : Prop := Lib.TabIs Tryd.prog w "internal/strconv.uint64pow10" .u64 Lib.pow10Tab

theorem below_put24 (w : World) (d : Array UInt8) (k : Nat) : Below w.heap.size w ((putRow (fun (b : UInt8) => Value.int .u8 (b.toNat : Int)) (w.alloc (.cells Lib.zeros24 94)) w.heap.size 0 d).drewN k) := by
  obtain ⟨os, eo⟩ := Lib.fin_at w (.cells Lib.zeros24 94) d k 0
  rw [eo]
  exact Lib.below_grow w.heap.size w (Nat.le_refl _) k os

set_option maxRecDepth 100000 in
set_option maxHeartbeats 2000000 in
theorem inner_any (u : Nat) (hu64 : u < 18446744073709551616) (w : World) (htab : Tab w) :
    Calls Tryd.prog 40 #[.int .u64 (u : Int), .int .i64 10] w fun e w' => e = .returned (.string (S (decDigits u))) ∧ Below w.heap.size w w' := by
  by_cases hs : u < 100
  · go_enter Tryd.func40, Tryd.ntmps40
    go_wp2_with (go_at_call 54; refine (Tryd.internal_strconv_small u hs _).mono ?_; rintro e w' ⟨rfl, rfl⟩)
    go_ret
    exact ⟨rfl, Below.refl _ _⟩
  · have hu1 : 1 ≤ u := by omega
    have hnd20 : nDigits u ≤ 20 := by have := Lib.numDigits_eq u hu1 hu64; split at this <;> omega
    have hal : Tryd.prog.arrayLen 94 = 24 := by simp [Program.arrayLen, Tryd.underlying94]
    have hsl : ∀ W, (Instr.sliceAt 94 (.pointer (some ⟨w.heap.size, 0, none⟩)) none (some (.int .i64 (nDigits u : Int))) none).run Tryd.prog W = .ok (.slice (some ⟨w.heap.size, 0, none⟩) (nDigits u) 24) W := fun W => by
      rw [run_sliceAt_array_h W 94 ⟨w.heap.size, 0, none⟩ (by simp [Program.arrayLen, Program.elem, Tryd.underlying94]) .i64 (nDigits u : Int) (by omega) (by rw [hal]; omega)]
      go_simp
    have hH0 := Lib.holds_zero0 w 94 (nDigits u) (by omega)
    have hfmt := Tryd.internal_strconv_formatBase10 w.heap.size 0 24 u (Array.replicate (nDigits u) 0) (w.alloc (.cells Lib.zeros24 94)) hH0 (by rw [Array.size_replicate]; exact Lib.lt_pow_nDigits u) hu64 (by rw [Array.size_replicate]; omega)
    rw [Array.size_replicate] at hfmt
    have HH0 := Lib.hid hH0
    have HF := Lib.hid hfmt
    have HT := Lib.hid htab
    have iu : (100 : Int) ≤ (u : Int) := by omega
    clear hH0 hal hfmt htab
    go_enter Tryd.func40, Tryd.ntmps40
    go_wp2_with (first
      | (go_at_call 55; refine (Tryd.internal_strconv_numDigits u hu1 hu64 _ (Lib.tabIs_alloc HT.out _)).mono ?_; rintro e w' ⟨rfl, rfl⟩))
    refine HF.out.mono ?_
    rintro e w' ⟨rfl, k, v', dk, rfl, hF⟩
    have hcv : (convert 29 9 (.slice (some ⟨w.heap.size, 0, none⟩) (nDigits u) 24)).run Tryd.prog ((putRow (fun (b : UInt8) => Value.int .u8 (b.toNat : Int)) (w.alloc (.cells Lib.zeros24 94)) w.heap.size 0 dk).drewN k) = .ok (.string ⟨(decDigits u).toArray⟩) ((putRow (fun (b : UInt8) => Value.int .u8 (b.toNat : Int)) (w.alloc (.cells Lib.zeros24 94)) w.heap.size 0 dk).drewN k) := by
      have h := run_convert_bytes_back (P := Tryd.prog) ((putRow (fun (b : UInt8) => Value.int .u8 (b.toNat : Int)) (w.alloc (.cells Lib.zeros24 94)) w.heap.size 0 dk).drewN k) 29 9 5 ⟨w.heap.size, 0, none⟩ 24 (decDigits u) Tryd.underlying29 Tryd.underlying5 Tryd.underlying9 (fun j hj => by
        rw [Lib.row_is_numeral hF j hj, Lib.add_plain, World.cell?_drewN]
        exact cell?_putRow (fun (b : UInt8) => Value.int .u8 (b.toNat : Int)) _ w.heap.size 0 _ dk HH0.out (by rw [hF.size, Array.size_replicate]) j (by rw [hF.size]; rw [Lib.decDigits_length] at hj; exact hj))
      rw [Lib.decDigits_length] at h
      exact h
    have hb := below_put24 w dk k
    have HB := Lib.hid hb
    clear hb HF HH0
    generalize (putRow (fun (b : UInt8) => Value.int .u8 (b.toNat : Int)) (w.alloc (.cells Lib.zeros24 94)) w.heap.size 0 dk).drewN k = W2 at *
    go_wp2
    go_ret
    exact ⟨rfl, HB.out⟩

/-- strconv.FormatUint, at base 10. -/
theorem format_any (u : Nat) (hu64 : u < 18446744073709551616) (w : World) (htab : Tab w) :
    Calls Tryd.prog 21 #[.int .u64 (u : Int), .int .i64 10] w fun e w' => e = .returned (.string (S (decDigits u))) ∧ Below w.heap.size w w' := by
  have H := Lib.hid (inner_any u hu64 w htab)
  clear htab
  go_enter Tryd.func21, Tryd.ntmps21
  go_wp2_with (go_at_call 40; refine H.out.mono ?_; rintro e w' ⟨rfl, hb⟩)
  go_ret
  exact ⟨rfl, hb⟩

/-- name.Digits. -/
theorem digits_any (u : Nat) (hu64 : u < 18446744073709551616) (w : World) (htab : Tab w) :
    Calls Tryd.prog 7 #[.int .u64 (u : Int)] w fun e w' => e = .returned (.string (S (decDigits u))) ∧ Below w.heap.size w w' := by
  have H := Lib.hid (format_any u hu64 w htab)
  clear htab
  go_enter Tryd.func7, Tryd.ntmps7
  go_wp2_with (go_at_call 21; refine H.out.mono ?_; rintro e w' ⟨rfl, hb⟩)
  go_ret
  exact ⟨rfl, hb⟩
end Go.Proofs.YtinabbdecmjcpaaDoor.Number
