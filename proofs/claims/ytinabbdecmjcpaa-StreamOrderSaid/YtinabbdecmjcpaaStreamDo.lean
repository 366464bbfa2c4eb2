/- Contracts of the methods of a stream: nil, and one that is there. -/
import Derived.Test.YtinabbdecmjcpaaStream
namespace Go.Proofs.Ytinabbdecmjcpaa.Stream
open Go.RowKit Go.Proofs.Ytinabbdecmjcpaa Go.Proofs.Ytinabbdecmjcpaa.Plain Go.Proofs.Ytinabbdecmjcpaa.Words Go.Proofs.Ytinabbdecmjcpaa.Named Go.Proofs.Ytinabbdecmjcpaa.Hex Go.Proofs.Ytinabbdecmjcpaa.Queue
open Go.Proofs.Ytinabbdecmjcpaa.queueDoes (len_is room_is came_is went_is)
set_option linter.unusedVariables false

/-! ### A queue of bytes, in other words -/
theorem push_is_full {w : World} {b : Nat} {q : List UInt8} {c g : Int} (h : QIs w b q c g) (a : Option Addr) (len cap : Nat) (hf : 64 < q.length + len) : Calls Try.prog 52 #[.pointer (some ⟨b, 0, none⟩), .slice a len cap] w fun e w' => e = .returned (.int .i64 15) ∧ w = w' := by
  obtain ⟨r, f, h, _⟩ := h
  exact push_full h a len cap hf
theorem push_is {w : World} {b : Nat} {q : List UInt8} {c g : Int} (h : QIs w b q c g) (l : List UInt8) (v : Value) (hv : BRow w v l) (ho : Off v b) (hf : q.length + l.length ≤ 64) (hc0 : 0 ≤ c) (hc1 : c ≤ 1000000000) :
    Calls Try.prog 52 #[.pointer (some ⟨b, 0, none⟩), v] w fun e w' => e = .returned (.int .i64 0) ∧ QIs w' b (q ++ l) (c + l.length) g ∧ Chg [b] w w' := by
  obtain ⟨r, f, h, he⟩ := h
  refine (push_ok h l v hv ho hf hc0 hc1).mono ?_
  rintro e w' ⟨rfl, hq, hc⟩
  refine ⟨rfl, ⟨_, f, by simpa using hq, ?_⟩, hc⟩
  rw [List.length_append, qs_put r f q.length l l.length (by omega) (Nat.le_refl _), he, List.take_length]
theorem pop_is {w : World} {b : Nat} {q : List UInt8} {c g : Int} (h : QIs w b q c g) (m : Int) (hg0 : 0 ≤ g) (hg1 : g ≤ 1000000000) :
    Calls Try.prog 53 #[.pointer (some ⟨b, 0, none⟩), .int .i64 m] w fun e w' => ∃ v, e = .returned v ∧ Bys w' w.heap.size v (q.take (took m q.length)) ∧ QIs w' b (q.drop (took m q.length)) c (g + took m q.length) ∧ Chg [b] w w' := by
  obtain ⟨r, f, h, he⟩ := h
  have ht := took_le m q.length
  refine (pop_any h m hg0 hg1).mono ?_
  rintro e w' ⟨v, rfl, hb, hq, hc⟩
  have e1 : q.take (took m q.length) = qs r f (took m q.length) := by
    have := qs_take r f q.length (took m q.length) ht
    rw [he] at this
    exact this
  have e2 : q.drop (took m q.length) = qs r ((f + took m q.length) % 64) (q.length - took m q.length) := by
    have := qs_drop r f q.length (took m q.length) ht
    rw [he] at this
    exact this
  refine ⟨v, rfl, by rw [e1]; exact hb, ⟨r, (f + took m q.length) % 64, ?_, ?_⟩, hc⟩
  · rw [List.length_drop]
    exact hq
  · rw [List.length_drop]
    exact e2.symm

/-! ### nil -/
theorem target_nil (w : World) : Calls Try.prog 37 #[.pointer none] w fun e w' => e = .returned (.string ⟨#[]⟩) ∧ w = w' := by
  go_enter Try.func37, Try.ntmps37
  go_wp2
  go_ret
  exact ⟨rfl, rfl⟩
theorem waits_nil (w : World) (i : Int) : Calls Try.prog 35 #[.pointer none, .int .i64 i] w fun e w' => e = .returned (.int .i64 0) ∧ w = w' := by
  go_enter Try.func35, Try.ntmps35
  go_wp2_with (go_at_call 64; go_in)
  go_ret
  exact ⟨rfl, rfl⟩
theorem size_nil (w : World) (i : Int) : Calls Try.prog 38 #[.pointer none, .int .i64 i] w fun e w' => e = .returned (.int .i64 0) ∧ w = w' := by
  go_enter Try.func38, Try.ntmps38
  go_wp2_with (go_at_call 64; go_in)
  go_ret
  exact ⟨rfl, rfl⟩
theorem ready_nil (w : World) (i : Int) : Calls Try.prog 39 #[.pointer none, .int .i64 i] w fun e w' => e = .returned (.bool false) ∧ w = w' := by
  go_enter Try.func39, Try.ntmps39
  go_wp2_with (go_at_call 38; refine (size_nil _ _).mono ?_; rintro e w' ⟨rfl, rfl⟩)
  go_ret
  exact ⟨rfl, rfl⟩
theorem done_nil (w : World) : Calls Try.prog 40 #[.pointer none] w fun e w' => e = .returned (.bool false) ∧ w = w' := by
  go_enter Try.func40, Try.ntmps40
  go_wp2
  go_ret
  exact ⟨rfl, rfl⟩
theorem up_nil (w : World) (v : Value) : Calls Try.prog 58 #[.pointer none, v] w fun e w' => e = .returned (.int .i64 8) ∧ w = w' := by
  go_enter Try.func58, Try.ntmps58
  go_wp2
  go_ret
  exact ⟨rfl, rfl⟩
theorem down_nil (w : World) (v : Value) : Calls Try.prog 61 #[.pointer none, v] w fun e w' => e = .returned (.int .i64 8) ∧ w = w' := by
  go_enter Try.func61, Try.ntmps61
  go_wp2
  go_ret
  exact ⟨rfl, rfl⟩
theorem grant_nil (w : World) (n : Int) : Calls Try.prog 62 #[.pointer none, .int .i64 n] w fun e w' => e = .returned (.int .i64 8) ∧ w = w' := by
  go_enter Try.func62, Try.ntmps62
  go_wp2
  go_ret
  exact ⟨rfl, rfl⟩
theorem end_nil (w : World) : Calls Try.prog 63 #[.pointer none] w fun e w' => e = .returned (.int .i64 8) ∧ w = w' := by
  go_enter Try.func63, Try.ntmps63
  go_wp2
  go_ret
  exact ⟨rfl, rfl⟩
theorem move_nil (w : World) (i n : Int) : Calls Try.prog 59 #[.pointer none, .int .i64 i, .int .i64 n] w fun e w' => e = .returned (.slice none 0 0) ∧ w = w' := by
  by_cases h : n < 0
  all_goals
    go_enter Try.func59, Try.ntmps59
    go_wp2_with (go_at_call 38; refine (size_nil _ _).mono ?_; rintro e w' ⟨rfl, rfl⟩)
    go_ret
    exact ⟨rfl, rfl⟩
/-- What a step of a stream that is nil tells. -/
def nilErr (k : Int) : Int := if k < 1 ∨ 4 < k then 0 else 8
theorem do_nil (w : World) (k n : Int) (v : Value) (hv : ∃ a len cap, v = .slice a len cap) : Calls Try.prog 34 #[.pointer none, .agg #[.int .i64 k, .int .i64 n, v]] w fun e w' => e = .returned (.tuple #[.slice none 0 0, .int .i64 (nilErr k)]) ∧ Below w.heap.size w w' := by
  obtain ⟨a, len, cap, rfl⟩ := hv
  have hcase : k = 1 ∨ k = 2 ∨ k = 3 ∨ k = 4 ∨ k = 5 ∨ k = 6 ∨ (k ≠ 1 ∧ k ≠ 2 ∧ k ≠ 3 ∧ k ≠ 4 ∧ k ≠ 5 ∧ k ≠ 6) := by omega
  rcases hcase with rfl | rfl | rfl | rfl | rfl | rfl | ⟨h1, h2, h3, h4, h5, h6⟩
  case inr.inr.inr.inr.inr.inr =>
    have e : nilErr k = 0 := by unfold nilErr; rw [if_pos (by omega)]
    rw [e]
    have b1 : (k == 1) = false := by simp [h1]
    have b2 : (k == 2) = false := by simp [h2]
    have b3 : (k == 3) = false := by simp [h3]
    have b4 : (k == 4) = false := by simp [h4]
    have b5 : (k == 5) = false := by simp [h5]
    have b6 : (k == 6) = false := by simp [h6]
    clear h1 h2 h3 h4 h5 h6 e
    go_enter Try.func34, Try.ntmps34
    go_wp2
    go_ret2
    exact ⟨rfl, (Below.refl _ _).alloc (Nat.le_refl _) _⟩
  all_goals
    go_enter Try.func34, Try.ntmps34
    go_wp2_with (first | (go_at_call 58; refine (up_nil _ _).mono ?_; rintro e w' ⟨rfl, rfl⟩) | (go_at_call 61; refine (down_nil _ _).mono ?_; rintro e w' ⟨rfl, rfl⟩) | (go_at_call 62; refine (grant_nil _ _).mono ?_; rintro e w' ⟨rfl, rfl⟩) | (go_at_call 63; refine (end_nil _).mono ?_; rintro e w' ⟨rfl, rfl⟩) | (go_at_call 59; refine (move_nil _ _ _).mono ?_; rintro e w' ⟨rfl, rfl⟩))
    go_ret2
    exact ⟨rfl, (Below.refl _ _).alloc (Nat.le_refl _) _⟩
end Go.Proofs.Ytinabbdecmjcpaa.Stream
