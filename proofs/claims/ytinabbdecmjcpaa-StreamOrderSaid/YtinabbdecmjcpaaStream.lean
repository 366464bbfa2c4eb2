/- Contracts of package stream over two queues and a window. -/
import Derived.Test.YtinabbdecmjcpaaQueueDoesWalk
namespace Go.Proofs.Ytinabbdecmjcpaa.Stream
open Go.RowKit Go.Proofs.Ytinabbdecmjcpaa Go.Proofs.Ytinabbdecmjcpaa.Plain Go.Proofs.Ytinabbdecmjcpaa.Words Go.Proofs.Ytinabbdecmjcpaa.Hex Go.Proofs.Ytinabbdecmjcpaa.Queue
open Go.Proofs.Ytinabbdecmjcpaa.queueDoes (len_is room_is came_is went_is)
set_option linter.unusedVariables false

/-! ### The window -/
theorem grant_ok (c n : Int) (w : World) (hc : 0 ≤ c) (h1 : 1 ≤ n) (h2 : n ≤ 1048576) (h3 : c ≤ 1048576 - n) :
    Calls Try.prog 81 #[.agg #[.int .i64 c], .int .i64 n] w fun e w' => e = .returned (.tuple #[.agg #[.int .i64 (c + n)], .int .i64 0]) ∧ Below w.heap.size w w' := by
  go_enter Try.func81, Try.ntmps81
  go_wp2
  exact bodyPost_ret (v := .tuple #[.agg #[.int .i64 (c + n)], .int .i64 0]) (by simp [results, Try.results81, go_sem]) rfl ⟨rfl, ((Below.refl _ _).alloc (Nat.le_refl _) _).alloc (by simp) _⟩
theorem grant_no (c n : Int) (w : World) (hc : 0 ≤ c) (hb : c ≤ 1048576) (h : n < 1 ∨ 1048576 < n ∨ 1048576 - n < c) :
    Calls Try.prog 81 #[.agg #[.int .i64 c], .int .i64 n] w fun e w' => e = .returned (.tuple #[.agg #[.int .i64 c], .int .i64 6]) ∧ Below w.heap.size w w' := by
  by_cases h1 : n < 1
  · clear h
    go_enter Try.func81, Try.ntmps81
    go_wp2
    exact bodyPost_ret (v := .tuple #[.agg #[.int .i64 c], .int .i64 6]) (by simp [results, Try.results81, go_sem]) rfl ⟨rfl, ((Below.refl _ _).alloc (Nat.le_refl _) _).alloc (by simp) _⟩
  · by_cases h2 : 1048576 < n
    · clear h
      go_enter Try.func81, Try.ntmps81
      go_wp2
      exact bodyPost_ret (v := .tuple #[.agg #[.int .i64 c], .int .i64 6]) (by simp [results, Try.results81, go_sem]) rfl ⟨rfl, ((Below.refl _ _).alloc (Nat.le_refl _) _).alloc (by simp) _⟩
    · have h3 : 1048576 - n < c := by omega
      clear h
      go_enter Try.func81, Try.ntmps81
      go_wp2
      exact bodyPost_ret (v := .tuple #[.agg #[.int .i64 c], .int .i64 6]) (by simp [results, Try.results81, go_sem]) rfl ⟨rfl, ((Below.refl _ _).alloc (Nat.le_refl _) _).alloc (by simp) _⟩
/-- Spend, within the credit. -/
theorem spend_in (c n : Int) (w : World) (hb : c ≤ 1048576) (h1 : 1 ≤ n) (h2 : n ≤ c) :
    Calls Try.prog 79 #[.agg #[.int .i64 c], .int .i64 n] w fun e w' => e = .returned (.tuple #[.agg #[.int .i64 (c - n)], .int .i64 n]) ∧ Below w.heap.size w w' := by
  go_enter Try.func79, Try.ntmps79
  go_wp2
  exact bodyPost_ret (v := .tuple #[.agg #[.int .i64 (c - n)], .int .i64 n]) (by simp [results, Try.results79, go_sem]) rfl ⟨rfl, (((Below.refl _ _).alloc (Nat.le_refl _) _).alloc (by simp) _).alloc (by simp; omega) _⟩

/-! ### A stream in memory -/
structure SAt (w : World) (s b0 b1 : Nat) (tgt : ByteArray) (up dn : List UInt8) (c0 g0 c1 g1 cr : Int) (en : Bool) : Prop where
  k0 : w.cell? ⟨s, 0, none⟩ = some (.string tgt)
  k1 : w.cell? ⟨s, 1, none⟩ = some (.pointer (some ⟨b0, 0, none⟩))
  k2 : w.cell? ⟨s, 2, none⟩ = some (.pointer (some ⟨b1, 0, none⟩))
  k3 : w.cell? ⟨s, 3, none⟩ = some (.int .i64 cr)
  k4 : w.cell? ⟨s, 4, none⟩ = some (.bool en)
  f3 : w.frozen? ⟨s, 3, none⟩ = false
  f4 : w.frozen? ⟨s, 4, none⟩ = false
  q0 : QIs w b0 up c0 g0
  q1 : QIs w b1 dn c1 g1
  ne0 : b0 ≠ s
  ne1 : b1 ≠ s
  ne : b0 ≠ b1
  cr0 : 0 ≤ cr
  cr1 : cr ≤ 1048576

section
variable {w w' : World} {s b0 b1 : Nat} {tgt : ByteArray} {up dn : List UInt8} {c0 g0 c1 g1 cr : Int} {en : Bool}
theorem SAt.lt (h : SAt w s b0 b1 tgt up dn c0 g0 c1 g1 cr en) : s < w.heap.size := World.block_lt_of_cell? _ _ h.k0
theorem SAt.chg {bs : List Nat} (h : SAt w s b0 b1 tgt up dn c0 g0 c1 g1 cr en) (hc : Chg bs w w') (hs : s ∉ bs) (h0 : b0 ∉ bs) (h1 : b1 ∉ bs) : SAt w' s b0 b1 tgt up dn c0 g0 c1 g1 cr en :=
  ⟨(hc.cell (p := ⟨s, 0, none⟩) h.lt hs).trans h.k0, (hc.cell (p := ⟨s, 1, none⟩) h.lt hs).trans h.k1, (hc.cell (p := ⟨s, 2, none⟩) h.lt hs).trans h.k2, (hc.cell (p := ⟨s, 3, none⟩) h.lt hs).trans h.k3, (hc.cell (p := ⟨s, 4, none⟩) h.lt hs).trans h.k4, (hc.frozen (p := ⟨s, 3, none⟩) h.lt hs).trans h.f3, (hc.frozen (p := ⟨s, 4, none⟩) h.lt hs).trans h.f4, h.q0.chg hc h0, h.q1.chg hc h1, h.ne0, h.ne1, h.ne, h.cr0, h.cr1⟩
theorem SAt.below (h : SAt w s b0 b1 tgt up dn c0 g0 c1 g1 cr en) (hb : Below w.heap.size w w') : SAt w' s b0 b1 tgt up dn c0 g0 c1 g1 cr en := h.chg (bs := []) (Chg.of_below hb) (by simp) (by simp) (by simp)
/-- The first queue has been written. -/
theorem SAt.turn0 {up' : List UInt8} {c' g' : Int} (h : SAt w s b0 b1 tgt up dn c0 g0 c1 g1 cr en) (hc : Chg [b0] w w') (hq : QIs w' b0 up' c' g') : SAt w' s b0 b1 tgt up' dn c' g' c1 g1 cr en :=
  have hs : s ∉ [b0] := by simpa using fun e => h.ne0 e.symm
  ⟨(hc.cell (p := ⟨s, 0, none⟩) h.lt hs).trans h.k0, (hc.cell (p := ⟨s, 1, none⟩) h.lt hs).trans h.k1, (hc.cell (p := ⟨s, 2, none⟩) h.lt hs).trans h.k2, (hc.cell (p := ⟨s, 3, none⟩) h.lt hs).trans h.k3, (hc.cell (p := ⟨s, 4, none⟩) h.lt hs).trans h.k4, (hc.frozen (p := ⟨s, 3, none⟩) h.lt hs).trans h.f3, (hc.frozen (p := ⟨s, 4, none⟩) h.lt hs).trans h.f4, hq, h.q1.chg hc (by simpa using fun e => h.ne e.symm), h.ne0, h.ne1, h.ne, h.cr0, h.cr1⟩
theorem SAt.turn1 {dn' : List UInt8} {c' g' : Int} (h : SAt w s b0 b1 tgt up dn c0 g0 c1 g1 cr en) (hc : Chg [b1] w w') (hq : QIs w' b1 dn' c' g') : SAt w' s b0 b1 tgt up dn' c0 g0 c' g' cr en :=
  have hs : s ∉ [b1] := by simpa using fun e => h.ne1 e.symm
  ⟨(hc.cell (p := ⟨s, 0, none⟩) h.lt hs).trans h.k0, (hc.cell (p := ⟨s, 1, none⟩) h.lt hs).trans h.k1, (hc.cell (p := ⟨s, 2, none⟩) h.lt hs).trans h.k2, (hc.cell (p := ⟨s, 3, none⟩) h.lt hs).trans h.k3, (hc.cell (p := ⟨s, 4, none⟩) h.lt hs).trans h.k4, (hc.frozen (p := ⟨s, 3, none⟩) h.lt hs).trans h.f3, (hc.frozen (p := ⟨s, 4, none⟩) h.lt hs).trans h.f4, h.q0.chg hc (by simpa using h.ne), hq, h.ne0, h.ne1, h.ne, h.cr0, h.cr1⟩
theorem qis_set {b : Nat} {q : List UInt8} {c g : Int} (h : QIs w b q c g) (i : Nat) (v : Value) (hne : b ≠ s) : QIs (w.setCell ⟨s, i, none⟩ v) b q c g :=
  h.chg (bs := [s]) ((Chg.refl _ _).setCell (by simp) v) (by simpa using hne)
theorem SAt.setCr (h : SAt w s b0 b1 tgt up dn c0 g0 c1 g1 cr en) (cr' : Int) (h0 : 0 ≤ cr') (h1 : cr' ≤ 1048576) : SAt (w.setCell ⟨s, 3, none⟩ (.int .i64 cr')) s b0 b1 tgt up dn c0 g0 c1 g1 cr' en :=
  ⟨(set_off _ _ _ _ _ (by omega)).trans h.k0, (set_off _ _ _ _ _ (by omega)).trans h.k1, (set_off _ _ _ _ _ (by omega)).trans h.k2, World.cell?_setCell_same _ _ _ h.k3, (set_off _ _ _ _ _ (by omega)).trans h.k4, by simpa using h.f3, by simpa using h.f4, qis_set h.q0 _ _ h.ne0, qis_set h.q1 _ _ h.ne1, h.ne0, h.ne1, h.ne, h0, h1⟩
theorem SAt.setEn (h : SAt w s b0 b1 tgt up dn c0 g0 c1 g1 cr en) (en' : Bool) : SAt (w.setCell ⟨s, 4, none⟩ (.bool en')) s b0 b1 tgt up dn c0 g0 c1 g1 cr en' :=
  ⟨(set_off _ _ _ _ _ (by omega)).trans h.k0, (set_off _ _ _ _ _ (by omega)).trans h.k1, (set_off _ _ _ _ _ (by omega)).trans h.k2, (set_off _ _ _ _ _ (by omega)).trans h.k3, World.cell?_setCell_same _ _ _ h.k4, by simpa using h.f3, by simpa using h.f4, qis_set h.q0 _ _ h.ne0, qis_set h.q1 _ _ h.ne1, h.ne0, h.ne1, h.ne, h.cr0, h.cr1⟩

/-! ### What only looks -/
theorem waits0 (h : SAt w s b0 b1 tgt up dn c0 g0 c1 g1 cr en) : Calls Try.prog 35 #[.pointer (some ⟨s, 0, none⟩), .int .i64 0] w fun e w' => e = .returned (.int .i64 (up.length : Int)) ∧ w = w' := by
  have h1 := h.k1
  have HQ := Lib.hid h.q0
  have hmf : ∀ (fn : Fn) (first cap : Array Value) (w : World), (Instr.makeFunc fn first cap).run Try.prog w = .ok (.func fn first cap) w := fun _ _ _ _ => rfl
  clear h
  go_enter Try.func35, Try.ntmps35
  go_wp2_with (first | (go_at_call 64; go_in) | (go_at_call 25; refine (len_is HQ.out).mono ?_; rintro e w' ⟨rfl, rfl⟩))
  go_ret
  exact ⟨rfl, rfl⟩
theorem waits1 (h : SAt w s b0 b1 tgt up dn c0 g0 c1 g1 cr en) : Calls Try.prog 35 #[.pointer (some ⟨s, 0, none⟩), .int .i64 1] w fun e w' => e = .returned (.int .i64 (dn.length : Int)) ∧ w = w' := by
  have h1 := h.k2
  have HQ := Lib.hid h.q1
  have hmf : ∀ (fn : Fn) (first cap : Array Value) (w : World), (Instr.makeFunc fn first cap).run Try.prog w = .ok (.func fn first cap) w := fun _ _ _ _ => rfl
  clear h
  go_enter Try.func35, Try.ntmps35
  go_wp2_with (first | (go_at_call 64; go_in) | (go_at_call 25; refine (len_is HQ.out).mono ?_; rintro e w' ⟨rfl, rfl⟩))
  go_ret
  exact ⟨rfl, rfl⟩
end
end Go.Proofs.Ytinabbdecmjcpaa.Stream
