/- The contract of the law's awake of layer 25: it returns true, and changes nothing that was there. -/
import Derived.Test.YtinabbdecmjcpaaQueueDo
import Derived.Lib.SlBytesConst
namespace Go.Proofs.Ytinabbdecmjcpaa.Queue
open Go.RowKit Go.Proofs.Ytinabbdecmjcpaa Go.Proofs.Ytinabbdecmjcpaa.Plain Go.Proofs.Ytinabbdecmjcpaa.Words Go.Proofs.Ytinabbdecmjcpaa.Hex
set_option linter.unusedVariables false

set_option maxRecDepth 100000 in
theorem awake25 (w : World) : Calls Try.prog 21 #[] w fun e w' => e = .returned (.bool true) ∧ Below w.heap.size w w' := by
  have kc := fun (w : World) (C : Array Value) (n c : Nat) => Lib.run_convert_bytes_const (P := Try.prog) w 22 5 C n c Try.underlying22 Try.underlying5
  go_enter Try.func21, Try.ntmps21
  go_wp2_with fail
  refine (new_any w).mono ?_
  rintro e w1 ⟨rfl, hq, hb1⟩
  have HQ := Lib.hid hq
  clear hq
  go_wp2_with fail
  have s1 := hb1.size
  have hlt := HQ.out.lt
  have ba : Below w1.heap.size w1 (w1.alloc (.cells #[.int .u8 120, .int .u8 121, .int .u8 122] 5 (3, 4))) := (Below.refl _ _).alloc (Nat.le_refl _) _
  have hrow : BRow (w1.alloc (.cells #[.int .u8 120, .int .u8 121, .int .u8 122] 5 (3, 4))) (.slice (some ⟨w1.heap.size, 0, none⟩) 3 3) [120, 121, 122] := by
    refine .inr ⟨w1.heap.size, 0, 3, rfl, by simp, fun i hi => ?_⟩
    rw [Nat.zero_add, World.cell?_alloc_mark]
    match i, hi with
    | 0, _ => rfl
    | 1, _ => rfl
    | 2, _ => rfl
  refine (push_ok (HQ.out.below ba) [120, 121, 122] _ hrow (fun g o len cap e _ => by cases e; omega) (by decide) (by omega) (by omega)).mono ?_
  rintro e w2 ⟨rfl, hq2, hch2⟩
  have HQ2 := Lib.hid hq2
  clear hq2 hrow
  go_wp2_with fail
  refine (pop_any HQ2.out 2 (by omega) (by omega)).mono ?_
  rintro e w3 ⟨v, rfl, hby, hq3, hch3⟩
  have e0 : qs (putR (fun _ => (0 : UInt8)) 0 0 ([120, 121, 122] : List UInt8) 3) 0 (took (2 : Int) 3) = [120, 121] := by decide
  have hby : Bys w3 w2.heap.size v [120, 121] := by rw [← e0]; exact hby
  clear e0
  obtain ⟨g, o, cap, rfl, hg, hc⟩ : ∃ g o cap, v = .slice (some ⟨g, o, none⟩) 2 cap ∧ g < w3.heap.size ∧ ∀ i (h : i < [120, 121].length), w3.cell? ⟨g, o + i, none⟩ = some (bv ([120, 121] : List UInt8)[i]) := by
    rcases bys_row hby with ⟨h, _⟩ | h
    · cases h
    · exact h
  have hcv : (convert 22 9 (.slice (some ⟨g, o, none⟩) 2 cap)).run Try.prog w3 = .ok (.string ⟨#[120, 121]⟩) w3 :=
    run_convert_bytes_back (P := Try.prog) w3 22 9 5 ⟨g, o, none⟩ cap [120, 121] Try.underlying22 Try.underlying5 Try.underlying9 (fun j hj => by rw [addr_add]; exact hc j hj)
  have HQ3 := Lib.hid hq3
  clear hq3 hby hc
  go_wp2_with (first | (go_at_call 25; refine (len_any HQ3.out).mono ?_; rintro e w' ⟨rfl, rfl⟩) | (go_at_call 26; refine (room_any HQ3.out).mono ?_; rintro e w' ⟨rfl, rfl⟩))
  go_ret
  have bb : Below w.heap.size w w3 := ((hb1.alloc s1 _).trans (hch2.below (by simp; omega) (by simp))).trans (hch3.below (by have := hch2.size; simp at this; omega) (by simp))
  exact ⟨rfl, bb⟩
end Go.Proofs.Ytinabbdecmjcpaa.Queue
