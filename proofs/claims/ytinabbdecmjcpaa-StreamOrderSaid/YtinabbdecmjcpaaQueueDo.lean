/- Contracts of the law's do and awake of layer 25: a step of a queue, as a step on a list of bytes. -/
import Derived.Test.YtinabbdecmjcpaaQueue
namespace Go.Proofs.Ytinabbdecmjcpaa.Queue
open Go.RowKit Go.Proofs.Ytinabbdecmjcpaa Go.Proofs.Ytinabbdecmjcpaa.Plain Go.Proofs.Ytinabbdecmjcpaa.Words Go.Proofs.Ytinabbdecmjcpaa.Hex
set_option linter.unusedVariables false

/-- A queue that holds a list of bytes. -/
def QIs (w : World) (b : Nat) (q : List UInt8) (c g : Int) : Prop := ∃ r f, QAt w b r f q.length c g ∧ qs r f q.length = q
theorem QIs.len {w : World} {b : Nat} {q : List UInt8} {c g : Int} (h : QIs w b q c g) : q.length ≤ 64 := by obtain ⟨r, f, h, _⟩ := h; exact h.n64
theorem QIs.lt {w : World} {b : Nat} {q : List UInt8} {c g : Int} (h : QIs w b q c g) : b < w.heap.size := by obtain ⟨r, f, h, _⟩ := h; exact h.lt
theorem QIs.chg {w w' : World} {b : Nat} {bs : List Nat} {q : List UInt8} {c g : Int} (h : QIs w b q c g) (hc : Chg bs w w') (hb : b ∉ bs) : QIs w' b q c g := by
  obtain ⟨r, f, h, e⟩ := h; exact ⟨r, f, h.chg hc hb, e⟩
theorem QIs.below {w w' : World} {b : Nat} {q : List UInt8} {c g : Int} (h : QIs w b q c g) (hb : Below w.heap.size w w') : QIs w' b q c g := h.chg (bs := []) (Chg.of_below hb) (by simp)

/-- What a step tells, and leaves. -/
structure Told where
  out : List UInt8
  num : Int
  err : Int
  q : List UInt8
  came : Int
  went : Int

/-- A step. -/
def step (kind n : Int) (l q : List UInt8) (c g : Int) : Told :=
  if kind = 1 then (if 64 < q.length + l.length then ⟨[], 0, 15, q, c, g⟩ else ⟨[], 0, 0, q ++ l, c + l.length, g⟩)
  else if kind = 2 then ⟨q.take (took n q.length), 0, 0, q.drop (took n q.length), c, g + took n q.length⟩
  else if kind = 3 then ⟨q.take (took n q.length), 0, 0, q, c, g⟩
  else if kind = 4 then ⟨[], q.length, 0, [], c, g⟩
  else ⟨[], 0, 0, q, c, g⟩

/-- What the call leaves. -/
def DoPost (b : Nat) (t : Told) (w : World) (e : Ending) (w' : World) : Prop :=
  ∃ v, e = .returned (.tuple #[v, .int .i64 t.num, .int .i64 t.err]) ∧ Bys w' w.heap.size v t.out ∧ QIs w' b t.q t.came t.went ∧ Chg [b] w w'

theorem bys_mono {w : World} {B C : Nat} {v : Value} {l : List UInt8} (h : B ≤ C) (hs : Bys w C v l) : Bys w B v l := by
  obtain ⟨h1, h2⟩ := hs
  refine ⟨h1, ?_⟩
  rcases h2 with h2 | ⟨g, cap, cur, a, b, c⟩
  · exact .inl h2
  · exact .inr ⟨g, cap, cur, a, by omega, c⟩
theorem chg_alloc {bs : List Nat} {w w' : World} {o : Obj} (h : Chg bs (w.alloc o) w') : Chg bs w w' := ((Chg.refl bs w).alloc o).trans h

set_option maxRecDepth 100000 in
set_option maxHeartbeats 1000000 in
theorem do_any {w : World} {b : Nat} {q : List UInt8} {c g : Int} (kind n : Int) (l : List UInt8) (v : Value) (h : QIs w b q c g) (hv : BRow w v l) (ho : Off v b) (hc0 : 0 ≤ c) (hc1 : c ≤ 1000000000) (hg0 : 0 ≤ g) (hg1 : g ≤ 1000000000) :
    Calls Try.prog 23 #[.pointer (some ⟨b, 0, none⟩), .agg #[.int .i64 kind, .int .i64 n, v]] w (DoPost b (step kind n l q c g) w) := by
  have H := Lib.hid (h.below ((Below.refl _ _).alloc (Nat.le_refl _) (.cells #[.int .i64 kind, .int .i64 n, v] 48)))
  have HV := Lib.hid (brow_below ((Below.refl _ _).alloc (Nat.le_refl _) (.cells #[.int .i64 kind, .int .i64 n, v] 48)) hv)
  have HO := Lib.hid ho
  obtain ⟨a, cap, rfl⟩ := brow_form hv
  clear h hv ho
  by_cases k1 : kind = 1
  · subst k1
    obtain ⟨r, f, hq, he⟩ := H.out
    by_cases hf : 64 < q.length + l.length
    · rw [show step 1 n l q c g = ⟨[], 0, 15, q, c, g⟩ by simp [step, hf]]
      have HQ := Lib.hid hq
      clear hq he
      go_enter Try.func23, Try.ntmps23
      go_wp2_with fail
      refine (push_full HQ.out a l.length cap hf).mono ?_
      rintro e w' ⟨rfl, rfl⟩
      go_wp2
      go_ret3
      exact ⟨_, rfl, World.ownsRow_nil _ _ _ _, H.out, (Chg.refl _ _).alloc _⟩
    · rw [show step 1 n l q c g = ⟨[], 0, 0, q ++ l, c + l.length, g⟩ by simp [step, hf]]
      have HQ := Lib.hid hq
      have HE := Lib.hid he
      clear hq he
      go_enter Try.func23, Try.ntmps23
      go_wp2_with fail
      refine (push_ok HQ.out l _ HV.out HO.out (by omega) hc0 hc1).mono ?_
      rintro e w1 ⟨rfl, hq1, hch⟩
      go_wp2
      go_ret3
      refine ⟨_, rfl, World.ownsRow_nil _ _ _ _, ⟨_, f, by simpa using hq1, ?_⟩, chg_alloc hch⟩
      show qs _ f (q ++ l).length = q ++ l
      rw [List.length_append, qs_put r f q.length l l.length (by omega) (Nat.le_refl _), HE.out, List.take_length]
  · have k1b : (kind == 1) = false := by simp [k1]
    by_cases k2 : kind = 2
    · subst k2
      obtain ⟨r, f, hq, he⟩ := H.out
      rw [show step 2 n l q c g = ⟨q.take (took n q.length), 0, 0, q.drop (took n q.length), c, g + took n q.length⟩ by simp [step]]
      have HQ := Lib.hid hq
      have HE := Lib.hid he
      have ht := took_le n q.length
      clear hq he k1 k1b
      go_enter Try.func23, Try.ntmps23
      go_wp2_with fail
      refine (pop_any HQ.out n hg0 hg1).mono ?_
      rintro e w1 ⟨v', rfl, hb1, hq1, hch⟩
      go_wp2
      go_ret3
      have e1 : q.take (took n q.length) = qs r f (took n q.length) := by
        have := qs_take r f q.length (took n q.length) ht
        rw [HE.out] at this
        exact this
      have e2 : q.drop (took n q.length) = qs r ((f + took n q.length) % 64) (q.length - took n q.length) := by
        have := qs_drop r f q.length (took n q.length) ht
        rw [HE.out] at this
        exact this
      refine ⟨_, rfl, ?_, ⟨r, (f + took n q.length) % 64, ?_, ?_⟩, chg_alloc hch⟩
      · show Bys _ _ _ (q.take _)
        rw [e1]
        exact bys_mono (by simp) hb1
      · show QAt _ _ _ _ (q.drop _).length _ _
        rw [List.length_drop]
        exact hq1
      · show qs _ _ (q.drop _).length = q.drop _
        rw [List.length_drop]
        exact e2.symm
    · have k2b : (kind == 2) = false := by simp [k2]
      by_cases k3 : kind = 3
      · subst k3
        obtain ⟨r, f, hq, he⟩ := H.out
        rw [show step 3 n l q c g = ⟨q.take (took n q.length), 0, 0, q, c, g⟩ by simp [step]]
        have HQ := Lib.hid hq
        have HE := Lib.hid he
        have ht := took_le n q.length
        clear hq he k1 k1b k2 k2b
        go_enter Try.func23, Try.ntmps23
        go_wp2_with fail
        refine (peek_any HQ.out n).mono ?_
        rintro e w1 ⟨v', rfl, hb1, hbel⟩
        go_wp2
        go_ret3
        have e1 : q.take (took n q.length) = qs r f (took n q.length) := by
          have := qs_take r f q.length (took n q.length) ht
          rw [HE.out] at this
          exact this
        refine ⟨_, rfl, ?_, H.out.below hbel, chg_alloc (Chg.of_below hbel)⟩
        show Bys _ _ _ (q.take _)
        rw [e1]
        exact bys_mono (by simp) hb1
      · have k3b : (kind == 3) = false := by simp [k3]
        by_cases k4 : kind = 4
        · subst k4
          obtain ⟨r, f, hq, he⟩ := H.out
          rw [show step 4 n l q c g = ⟨[], q.length, 0, [], c, g⟩ by simp [step]]
          have HQ := Lib.hid hq
          clear hq he k1 k1b k2 k2b k3 k3b
          go_enter Try.func23, Try.ntmps23
          go_wp2_with fail
          refine (drop_any HQ.out).mono ?_
          rintro e w1 ⟨rfl, hq1, hch⟩
          go_wp2
          go_ret3
          exact ⟨_, rfl, World.ownsRow_nil _ _ _ _, ⟨r, 0, hq1, rfl⟩, chg_alloc hch⟩
        · have k4b : (kind == 4) = false := by simp [k4]
          rw [show step kind n l q c g = ⟨[], 0, 0, q, c, g⟩ by simp [step, k1, k2, k3, k4]]
          clear k1 k2 k3 k4
          go_enter Try.func23, Try.ntmps23
          go_wp2
          go_ret3
          exact ⟨_, rfl, World.ownsRow_nil _ _ _ _, H.out, (Chg.refl _ _).alloc _⟩
end Go.Proofs.Ytinabbdecmjcpaa.Queue
