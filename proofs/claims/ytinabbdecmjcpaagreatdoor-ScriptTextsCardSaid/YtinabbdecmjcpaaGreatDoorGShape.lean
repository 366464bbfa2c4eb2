/- The contract of event.shapeOf: a kind's word and pattern, and where its fields lie in an event. -/
import Derived.BigRegion
import Derived.Deep.DeepCutAuto
import Derived.Test.YtinabbdecmjcpaaGreatDoorG06
namespace Go.Proofs.YtinabbdecmjcpaaGreatDoor.Ev
open Go.RowKit Go.Proofs.YtinabbdecmjcpaaGreatDoor Go.Proofs.YtinabbdecmjcpaaGreatDoor.Plain Go.Proofs.YtinabbdecmjcpaaGreatDoor.Words Go.Proofs.YtinabbdecmjcpaaGreatDoor.Named Go.Proofs.YtinabbdecmjcpaaGreatDoor.Hex Go.Proofs.YtinabbdecmjcpaaGreatDoor.Number
set_option linter.unusedVariables false

/-- A slot in memory: four pointers. -/
structure C4 (w : World) (v a0 a1 a2 a3 : Value) : Prop where
  at' : ∃ b, v = .pointer (some ⟨b, 0, none⟩) ∧ w.cell? ⟨b, 0, none⟩ = some a0 ∧ w.cell? ⟨b, 1, none⟩ = some a1 ∧ w.cell? ⟨b, 2, none⟩ = some a2 ∧ w.cell? ⟨b, 3, none⟩ = some a3
theorem C4.below {w w' : World} {v a0 a1 a2 a3 : Value} (h : C4 w v a0 a1 a2 a3) (hb : Below w.heap.size w w') : C4 w' v a0 a1 a2 a3 := by
  obtain ⟨b, e, h0, h1, h2, h3⟩ := h.at'
  have hl := World.block_lt_of_cell? _ _ h0
  exact ⟨b, e, (hb.cell (p := ⟨b, 0, none⟩) hl).trans h0, (hb.cell (p := ⟨b, 1, none⟩) hl).trans h1, (hb.cell (p := ⟨b, 2, none⟩) hl).trans h2, (hb.cell (p := ⟨b, 3, none⟩) hl).trans h3⟩
theorem C4.new (w : World) (a0 a1 a2 a3 : Value) (t : TypeId) : C4 (w.alloc (.cells #[a0, a1, a2, a3] t)) (.pointer (some ⟨w.heap.size, 0, none⟩)) a0 a1 a2 a3 :=
  ⟨w.heap.size, rfl, World.cell?_alloc_at _ _ _ _ rfl, World.cell?_alloc_at _ _ _ _ rfl, World.cell?_alloc_at _ _ _ _ rfl, World.cell?_alloc_at _ _ _ _ rfl⟩
section
variable (w : World) (a0 a1 a2 a3 : Value) (t : TypeId) (o1 o2 : Obj) (N : Nat)
theorem nth1 (h : w.heap.size = N) : C4 (((w.alloc (.cells #[a0, a1, a2, a3] t)).alloc o1).alloc o2).drew (.pointer (some ⟨N, 0, none⟩)) a0 a1 a2 a3 := by
  subst h
  exact ((C4.new w a0 a1 a2 a3 t).below ((Below.refl _ _).alloc (Nat.le_refl _) o1)).below ((Below.refl _ _).alloc (Nat.le_refl _) o2).drew
theorem nth2 (h : w.heap.size + 1 = N) : C4 (((w.alloc o1).alloc (.cells #[a0, a1, a2, a3] t)).alloc o2).drew (.pointer (some ⟨N, 0, none⟩)) a0 a1 a2 a3 := by
  have := (C4.new (w.alloc o1) a0 a1 a2 a3 t).below ((Below.refl _ _).alloc (Nat.le_refl _) o2).drew
  rw [show (w.alloc o1).heap.size = N by simp; omega] at this
  exact this
theorem nth3 (h : w.heap.size + 1 + 1 = N) : C4 (((w.alloc o1).alloc o2).alloc (.cells #[a0, a1, a2, a3] t)).drew (.pointer (some ⟨N, 0, none⟩)) a0 a1 a2 a3 := by
  have := (C4.new ((w.alloc o1).alloc o2) a0 a1 a2 a3 t).below ((Below.refl _ _).drew)
  rw [show ((w.alloc o1).alloc o2).heap.size = N by simp; omega] at this
  exact this
theorem three_below (o3 : Obj) : Below w.heap.size w (((w.alloc o1).alloc o2).alloc o3).drew := ((((Below.refl _ _).alloc (Nat.le_refl _) _).alloc (by simp) _).alloc (by simp; omega) _).drew
end
/-- Fourteen cells of a block, free to be written. -/
structure C14 (w : World) (x : Nat) (a0 a1 a2 a3 a4 a5 a6 a7 a8 a9 a10 a11 a12 a13 : Value) : Prop where
  c0 : w.cell? ⟨x, 0, none⟩ = some a0
  c1 : w.cell? ⟨x, 1, none⟩ = some a1
  c2 : w.cell? ⟨x, 2, none⟩ = some a2
  c3 : w.cell? ⟨x, 3, none⟩ = some a3
  c4 : w.cell? ⟨x, 4, none⟩ = some a4
  c5 : w.cell? ⟨x, 5, none⟩ = some a5
  c6 : w.cell? ⟨x, 6, none⟩ = some a6
  c7 : w.cell? ⟨x, 7, none⟩ = some a7
  c8 : w.cell? ⟨x, 8, none⟩ = some a8
  c9 : w.cell? ⟨x, 9, none⟩ = some a9
  c10 : w.cell? ⟨x, 10, none⟩ = some a10
  c11 : w.cell? ⟨x, 11, none⟩ = some a11
  c12 : w.cell? ⟨x, 12, none⟩ = some a12
  c13 : w.cell? ⟨x, 13, none⟩ = some a13
  fz : ∀ o, w.frozen? ⟨x, o, none⟩ = false
theorem C14.lt {w : World} {x : Nat} {a0 a1 a2 a3 a4 a5 a6 a7 a8 a9 a10 a11 a12 a13 : Value} (h : C14 w x a0 a1 a2 a3 a4 a5 a6 a7 a8 a9 a10 a11 a12 a13) : x < w.heap.size := World.block_lt_of_cell? _ _ h.c0
theorem C14.chg {bs : List Nat} {w w' : World} {x : Nat} {a0 a1 a2 a3 a4 a5 a6 a7 a8 a9 a10 a11 a12 a13 : Value} (h : C14 w x a0 a1 a2 a3 a4 a5 a6 a7 a8 a9 a10 a11 a12 a13) (hc : Chg bs w w') (hx : x ∉ bs) : C14 w' x a0 a1 a2 a3 a4 a5 a6 a7 a8 a9 a10 a11 a12 a13 :=
  ⟨(hc.cell (p := ⟨x, 0, none⟩) h.lt hx).trans h.c0, (hc.cell (p := ⟨x, 1, none⟩) h.lt hx).trans h.c1, (hc.cell (p := ⟨x, 2, none⟩) h.lt hx).trans h.c2, (hc.cell (p := ⟨x, 3, none⟩) h.lt hx).trans h.c3, (hc.cell (p := ⟨x, 4, none⟩) h.lt hx).trans h.c4, (hc.cell (p := ⟨x, 5, none⟩) h.lt hx).trans h.c5, (hc.cell (p := ⟨x, 6, none⟩) h.lt hx).trans h.c6, (hc.cell (p := ⟨x, 7, none⟩) h.lt hx).trans h.c7, (hc.cell (p := ⟨x, 8, none⟩) h.lt hx).trans h.c8, (hc.cell (p := ⟨x, 9, none⟩) h.lt hx).trans h.c9, (hc.cell (p := ⟨x, 10, none⟩) h.lt hx).trans h.c10, (hc.cell (p := ⟨x, 11, none⟩) h.lt hx).trans h.c11, (hc.cell (p := ⟨x, 12, none⟩) h.lt hx).trans h.c12, (hc.cell (p := ⟨x, 13, none⟩) h.lt hx).trans h.c13, fun o => (hc.frozen (p := ⟨x, o, none⟩) h.lt hx).trans (h.fz o)⟩
theorem C14.below {w w' : World} {x : Nat} {a0 a1 a2 a3 a4 a5 a6 a7 a8 a9 a10 a11 a12 a13 : Value} (h : C14 w x a0 a1 a2 a3 a4 a5 a6 a7 a8 a9 a10 a11 a12 a13) (hb : Below w.heap.size w w') : C14 w' x a0 a1 a2 a3 a4 a5 a6 a7 a8 a9 a10 a11 a12 a13 := h.chg (bs := []) (Chg.of_below hb) (by simp)
theorem C14.new (w : World) (a0 a1 a2 a3 a4 a5 a6 a7 a8 a9 a10 a11 a12 a13 : Value) (t : TypeId) : C14 (w.alloc (.cells #[a0, a1, a2, a3, a4, a5, a6, a7, a8, a9, a10, a11, a12, a13] t)) w.heap.size a0 a1 a2 a3 a4 a5 a6 a7 a8 a9 a10 a11 a12 a13 :=
  ⟨World.cell?_alloc_at _ _ _ _ rfl, World.cell?_alloc_at _ _ _ _ rfl, World.cell?_alloc_at _ _ _ _ rfl, World.cell?_alloc_at _ _ _ _ rfl, World.cell?_alloc_at _ _ _ _ rfl, World.cell?_alloc_at _ _ _ _ rfl, World.cell?_alloc_at _ _ _ _ rfl, World.cell?_alloc_at _ _ _ _ rfl, World.cell?_alloc_at _ _ _ _ rfl, World.cell?_alloc_at _ _ _ _ rfl, World.cell?_alloc_at _ _ _ _ rfl, World.cell?_alloc_at _ _ _ _ rfl, World.cell?_alloc_at _ _ _ _ rfl, World.cell?_alloc_at _ _ _ _ rfl, fun o => World.frozen?_alloc_at _ _ _ _ rfl⟩
theorem set14 (W : World) (b i j : Nat) (v : Value) (h : i ≠ j) : (W.setCell ⟨b, i, none⟩ v).cell? ⟨b, j, none⟩ = W.cell? ⟨b, j, none⟩ := World.cell?_setCell_other _ _ _ _ (fun e => h (congrArg Addr.off e))
theorem put14 {w : World} {x : Nat} {a0 a1 a2 a3 a4 a5 a6 a7 a8 a9 a10 a11 a12 a13 : Value} (h : C14 w x a0 a1 a2 a3 a4 a5 a6 a7 a8 a9 a10 a11 a12 a13) (b0 b1 b2 b3 b4 b5 b6 b7 b8 b9 b10 b11 b12 b13 : Value) : C14 ((((((((((((((w.setCell ⟨x, 0, none⟩ b0).setCell ⟨x, 1, none⟩ b1).setCell ⟨x, 2, none⟩ b2).setCell ⟨x, 3, none⟩ b3).setCell ⟨x, 4, none⟩ b4).setCell ⟨x, 5, none⟩ b5).setCell ⟨x, 6, none⟩ b6).setCell ⟨x, 7, none⟩ b7).setCell ⟨x, 8, none⟩ b8).setCell ⟨x, 9, none⟩ b9).setCell ⟨x, 10, none⟩ b10).setCell ⟨x, 11, none⟩ b11).setCell ⟨x, 12, none⟩ b12).setCell ⟨x, 13, none⟩ b13) x b0 b1 b2 b3 b4 b5 b6 b7 b8 b9 b10 b11 b12 b13 := by
  have one : ∀ (W : World) (i : Nat) (u v : Value), W.cell? ⟨x, i, none⟩ = some u → (W.setCell ⟨x, i, none⟩ v).cell? ⟨x, i, none⟩ = some v := fun W i u v h => World.cell?_setCell_same _ _ _ h
  refine ⟨?_, ?_, ?_, ?_, ?_, ?_, ?_, ?_, ?_, ?_, ?_, ?_, ?_, ?_, fun o => by simpa using h.fz o⟩
  · rw [set14 _ _ _ _ _ (by decide), set14 _ _ _ _ _ (by decide), set14 _ _ _ _ _ (by decide), set14 _ _ _ _ _ (by decide), set14 _ _ _ _ _ (by decide), set14 _ _ _ _ _ (by decide), set14 _ _ _ _ _ (by decide), set14 _ _ _ _ _ (by decide), set14 _ _ _ _ _ (by decide), set14 _ _ _ _ _ (by decide), set14 _ _ _ _ _ (by decide), set14 _ _ _ _ _ (by decide), set14 _ _ _ _ _ (by decide)]
    exact one _ _ a0 _ h.c0
  · rw [set14 _ _ _ _ _ (by decide), set14 _ _ _ _ _ (by decide), set14 _ _ _ _ _ (by decide), set14 _ _ _ _ _ (by decide), set14 _ _ _ _ _ (by decide), set14 _ _ _ _ _ (by decide), set14 _ _ _ _ _ (by decide), set14 _ _ _ _ _ (by decide), set14 _ _ _ _ _ (by decide), set14 _ _ _ _ _ (by decide), set14 _ _ _ _ _ (by decide), set14 _ _ _ _ _ (by decide)]
    exact one _ _ a1 _ (by rw [set14 _ _ _ _ _ (by decide)]; exact h.c1)
  · rw [set14 _ _ _ _ _ (by decide), set14 _ _ _ _ _ (by decide), set14 _ _ _ _ _ (by decide), set14 _ _ _ _ _ (by decide), set14 _ _ _ _ _ (by decide), set14 _ _ _ _ _ (by decide), set14 _ _ _ _ _ (by decide), set14 _ _ _ _ _ (by decide), set14 _ _ _ _ _ (by decide), set14 _ _ _ _ _ (by decide), set14 _ _ _ _ _ (by decide)]
    exact one _ _ a2 _ (by rw [set14 _ _ _ _ _ (by decide), set14 _ _ _ _ _ (by decide)]; exact h.c2)
  · rw [set14 _ _ _ _ _ (by decide), set14 _ _ _ _ _ (by decide), set14 _ _ _ _ _ (by decide), set14 _ _ _ _ _ (by decide), set14 _ _ _ _ _ (by decide), set14 _ _ _ _ _ (by decide), set14 _ _ _ _ _ (by decide), set14 _ _ _ _ _ (by decide), set14 _ _ _ _ _ (by decide), set14 _ _ _ _ _ (by decide)]
    exact one _ _ a3 _ (by rw [set14 _ _ _ _ _ (by decide), set14 _ _ _ _ _ (by decide), set14 _ _ _ _ _ (by decide)]; exact h.c3)
  · rw [set14 _ _ _ _ _ (by decide), set14 _ _ _ _ _ (by decide), set14 _ _ _ _ _ (by decide), set14 _ _ _ _ _ (by decide), set14 _ _ _ _ _ (by decide), set14 _ _ _ _ _ (by decide), set14 _ _ _ _ _ (by decide), set14 _ _ _ _ _ (by decide), set14 _ _ _ _ _ (by decide)]
    exact one _ _ a4 _ (by rw [set14 _ _ _ _ _ (by decide), set14 _ _ _ _ _ (by decide), set14 _ _ _ _ _ (by decide), set14 _ _ _ _ _ (by decide)]; exact h.c4)
  · rw [set14 _ _ _ _ _ (by decide), set14 _ _ _ _ _ (by decide), set14 _ _ _ _ _ (by decide), set14 _ _ _ _ _ (by decide), set14 _ _ _ _ _ (by decide), set14 _ _ _ _ _ (by decide), set14 _ _ _ _ _ (by decide), set14 _ _ _ _ _ (by decide)]
    exact one _ _ a5 _ (by rw [set14 _ _ _ _ _ (by decide), set14 _ _ _ _ _ (by decide), set14 _ _ _ _ _ (by decide), set14 _ _ _ _ _ (by decide), set14 _ _ _ _ _ (by decide)]; exact h.c5)
  · rw [set14 _ _ _ _ _ (by decide), set14 _ _ _ _ _ (by decide), set14 _ _ _ _ _ (by decide), set14 _ _ _ _ _ (by decide), set14 _ _ _ _ _ (by decide), set14 _ _ _ _ _ (by decide), set14 _ _ _ _ _ (by decide)]
    exact one _ _ a6 _ (by rw [set14 _ _ _ _ _ (by decide), set14 _ _ _ _ _ (by decide), set14 _ _ _ _ _ (by decide), set14 _ _ _ _ _ (by decide), set14 _ _ _ _ _ (by decide), set14 _ _ _ _ _ (by decide)]; exact h.c6)
  · rw [set14 _ _ _ _ _ (by decide), set14 _ _ _ _ _ (by decide), set14 _ _ _ _ _ (by decide), set14 _ _ _ _ _ (by decide), set14 _ _ _ _ _ (by decide), set14 _ _ _ _ _ (by decide)]
    exact one _ _ a7 _ (by rw [set14 _ _ _ _ _ (by decide), set14 _ _ _ _ _ (by decide), set14 _ _ _ _ _ (by decide), set14 _ _ _ _ _ (by decide), set14 _ _ _ _ _ (by decide), set14 _ _ _ _ _ (by decide), set14 _ _ _ _ _ (by decide)]; exact h.c7)
  · rw [set14 _ _ _ _ _ (by decide), set14 _ _ _ _ _ (by decide), set14 _ _ _ _ _ (by decide), set14 _ _ _ _ _ (by decide), set14 _ _ _ _ _ (by decide)]
    exact one _ _ a8 _ (by rw [set14 _ _ _ _ _ (by decide), set14 _ _ _ _ _ (by decide), set14 _ _ _ _ _ (by decide), set14 _ _ _ _ _ (by decide), set14 _ _ _ _ _ (by decide), set14 _ _ _ _ _ (by decide), set14 _ _ _ _ _ (by decide), set14 _ _ _ _ _ (by decide)]; exact h.c8)
  · rw [set14 _ _ _ _ _ (by decide), set14 _ _ _ _ _ (by decide), set14 _ _ _ _ _ (by decide), set14 _ _ _ _ _ (by decide)]
    exact one _ _ a9 _ (by rw [set14 _ _ _ _ _ (by decide), set14 _ _ _ _ _ (by decide), set14 _ _ _ _ _ (by decide), set14 _ _ _ _ _ (by decide), set14 _ _ _ _ _ (by decide), set14 _ _ _ _ _ (by decide), set14 _ _ _ _ _ (by decide), set14 _ _ _ _ _ (by decide), set14 _ _ _ _ _ (by decide)]; exact h.c9)
  · rw [set14 _ _ _ _ _ (by decide), set14 _ _ _ _ _ (by decide), set14 _ _ _ _ _ (by decide)]
    exact one _ _ a10 _ (by rw [set14 _ _ _ _ _ (by decide), set14 _ _ _ _ _ (by decide), set14 _ _ _ _ _ (by decide), set14 _ _ _ _ _ (by decide), set14 _ _ _ _ _ (by decide), set14 _ _ _ _ _ (by decide), set14 _ _ _ _ _ (by decide), set14 _ _ _ _ _ (by decide), set14 _ _ _ _ _ (by decide), set14 _ _ _ _ _ (by decide)]; exact h.c10)
  · rw [set14 _ _ _ _ _ (by decide), set14 _ _ _ _ _ (by decide)]
    exact one _ _ a11 _ (by rw [set14 _ _ _ _ _ (by decide), set14 _ _ _ _ _ (by decide), set14 _ _ _ _ _ (by decide), set14 _ _ _ _ _ (by decide), set14 _ _ _ _ _ (by decide), set14 _ _ _ _ _ (by decide), set14 _ _ _ _ _ (by decide), set14 _ _ _ _ _ (by decide), set14 _ _ _ _ _ (by decide), set14 _ _ _ _ _ (by decide), set14 _ _ _ _ _ (by decide)]; exact h.c11)
  · rw [set14 _ _ _ _ _ (by decide)]
    exact one _ _ a12 _ (by rw [set14 _ _ _ _ _ (by decide), set14 _ _ _ _ _ (by decide), set14 _ _ _ _ _ (by decide), set14 _ _ _ _ _ (by decide), set14 _ _ _ _ _ (by decide), set14 _ _ _ _ _ (by decide), set14 _ _ _ _ _ (by decide), set14 _ _ _ _ _ (by decide), set14 _ _ _ _ _ (by decide), set14 _ _ _ _ _ (by decide), set14 _ _ _ _ _ (by decide), set14 _ _ _ _ _ (by decide)]; exact h.c12)
  · skip
    exact one _ _ a13 _ (by rw [set14 _ _ _ _ _ (by decide), set14 _ _ _ _ _ (by decide), set14 _ _ _ _ _ (by decide), set14 _ _ _ _ _ (by decide), set14 _ _ _ _ _ (by decide), set14 _ _ _ _ _ (by decide), set14 _ _ _ _ _ (by decide), set14 _ _ _ _ _ (by decide), set14 _ _ _ _ _ (by decide), set14 _ _ _ _ _ (by decide), set14 _ _ _ _ _ (by decide), set14 _ _ _ _ _ (by decide), set14 _ _ _ _ _ (by decide)]; exact h.c13)
theorem below_put14 {w0 w : World} {x : Nat} (hb : Below w0.heap.size w0 w) (hx : w0.heap.size ≤ x) (b0 b1 b2 b3 b4 b5 b6 b7 b8 b9 b10 b11 b12 b13 : Value) : Below w0.heap.size w0 ((((((((((((((w.setCell ⟨x, 0, none⟩ b0).setCell ⟨x, 1, none⟩ b1).setCell ⟨x, 2, none⟩ b2).setCell ⟨x, 3, none⟩ b3).setCell ⟨x, 4, none⟩ b4).setCell ⟨x, 5, none⟩ b5).setCell ⟨x, 6, none⟩ b6).setCell ⟨x, 7, none⟩ b7).setCell ⟨x, 8, none⟩ b8).setCell ⟨x, 9, none⟩ b9).setCell ⟨x, 10, none⟩ b10).setCell ⟨x, 11, none⟩ b11).setCell ⟨x, 12, none⟩ b12).setCell ⟨x, 13, none⟩ b13) := ((((((((((((((hb.setCell hx _).setCell hx _).setCell hx _).setCell hx _).setCell hx _).setCell hx _).setCell hx _).setCell hx _).setCell hx _).setCell hx _).setCell hx _).setCell hx _).setCell hx _).setCell hx _)
/-- What shapeOf answers. -/
def shapeR (x : Nat) : Nat → Value
  | 1 => .tuple #[.agg #[.string ⟨#[98, 111, 111, 116]⟩, .string ⟨#[115]⟩, .pointer (some ⟨x, 5, none⟩), .pointer none, .pointer none, .pointer none, .pointer none, .pointer none, .pointer none, .pointer none, .pointer none, .pointer none, .pointer none, .pointer none], .bool true]
  | 2 => .tuple #[.agg #[.string ⟨#[99, 111, 110, 110, 101, 99, 116]⟩, .string ⟨#[115, 98]⟩, .pointer (some ⟨x, 1, none⟩), .pointer none, .pointer none, .pointer none, .pointer none, .pointer none, .pointer none, .pointer (some ⟨x, 7, none⟩), .pointer none, .pointer none, .pointer none, .pointer none], .bool true]
  | 3 => .tuple #[.agg #[.string ⟨#[98, 121, 116, 101, 115]⟩, .string ⟨#[115, 98]⟩, .pointer (some ⟨x, 1, none⟩), .pointer none, .pointer none, .pointer none, .pointer none, .pointer none, .pointer none, .pointer (some ⟨x, 7, none⟩), .pointer none, .pointer none, .pointer none, .pointer none], .bool true]
  | 4 => .tuple #[.agg #[.string ⟨#[104, 97, 110, 103, 117, 112]⟩, .string ⟨#[115]⟩, .pointer (some ⟨x, 1, none⟩), .pointer none, .pointer none, .pointer none, .pointer none, .pointer none, .pointer none, .pointer none, .pointer none, .pointer none, .pointer none, .pointer none], .bool true]
  | 5 => .tuple #[.agg #[.string ⟨#[116, 97, 114, 103, 101, 116]⟩, .string ⟨#[115, 115, 98]⟩, .pointer (some ⟨x, 1, none⟩), .pointer none, .pointer none, .pointer none, .pointer (some ⟨x, 2, none⟩), .pointer none, .pointer none, .pointer none, .pointer none, .pointer none, .pointer none, .pointer (some ⟨x, 7, none⟩)], .bool true]
  | 6 => .tuple #[.agg #[.string ⟨#[101, 110, 100]⟩, .string ⟨#[115, 115]⟩, .pointer (some ⟨x, 1, none⟩), .pointer none, .pointer none, .pointer none, .pointer (some ⟨x, 2, none⟩), .pointer none, .pointer none, .pointer none, .pointer none, .pointer none, .pointer none, .pointer none], .bool true]
  | 7 => .tuple #[.agg #[.string ⟨#[112, 105, 99, 107]⟩, .string ⟨#[116, 110]⟩, .pointer none, .pointer none, .pointer (some ⟨x, 3, none⟩), .pointer none, .pointer none, .pointer (some ⟨x, 6, none⟩), .pointer none, .pointer none, .pointer none, .pointer none, .pointer none, .pointer none], .bool true]
  | 8 => .tuple #[.agg #[.string ⟨#[99, 111, 109, 109, 105, 116]⟩, .string ⟨#[]⟩, .pointer none, .pointer none, .pointer none, .pointer none, .pointer none, .pointer none, .pointer none, .pointer none, .pointer none, .pointer none, .pointer none, .pointer none], .bool true]
  | 9 => .tuple #[.agg #[.string ⟨#[116, 105, 99, 107]⟩, .string ⟨#[]⟩, .pointer none, .pointer none, .pointer none, .pointer none, .pointer none, .pointer none, .pointer none, .pointer none, .pointer none, .pointer none, .pointer none, .pointer none], .bool true]
  | 10 => .tuple #[.agg #[.string ⟨#[99, 97, 112]⟩, .string ⟨#[116, 110]⟩, .pointer none, .pointer none, .pointer (some ⟨x, 3, none⟩), .pointer none, .pointer none, .pointer (some ⟨x, 4, none⟩), .pointer none, .pointer none, .pointer none, .pointer none, .pointer none, .pointer none], .bool true]
  | 11 => .tuple #[.agg #[.string ⟨#[112, 114, 105, 99, 101]⟩, .string ⟨#[116, 110]⟩, .pointer none, .pointer none, .pointer (some ⟨x, 3, none⟩), .pointer none, .pointer none, .pointer (some ⟨x, 6, none⟩), .pointer none, .pointer none, .pointer none, .pointer none, .pointer none, .pointer none], .bool true]
  | 12 => .tuple #[.agg #[.string ⟨#[99, 108, 111, 115, 101]⟩, .string ⟨#[116]⟩, .pointer none, .pointer none, .pointer (some ⟨x, 3, none⟩), .pointer none, .pointer none, .pointer none, .pointer none, .pointer none, .pointer none, .pointer none, .pointer none, .pointer none], .bool true]
  | 13 => .tuple #[.agg #[.string ⟨#[101, 120, 112, 111, 114, 116]⟩, .string ⟨#[116, 110]⟩, .pointer none, .pointer none, .pointer (some ⟨x, 3, none⟩), .pointer none, .pointer none, .pointer (some ⟨x, 4, none⟩), .pointer none, .pointer none, .pointer none, .pointer none, .pointer none, .pointer none], .bool true]
  | 14 => .tuple #[.agg #[.string ⟨#[99, 111, 109, 112, 97, 99, 116]⟩, .string ⟨#[]⟩, .pointer none, .pointer none, .pointer none, .pointer none, .pointer none, .pointer none, .pointer none, .pointer none, .pointer none, .pointer none, .pointer none, .pointer none], .bool true]
  | 15 => .tuple #[.agg #[.string ⟨#[97, 114, 109]⟩, .string ⟨#[110, 115]⟩, .pointer none, .pointer (some ⟨x, 4, none⟩), .pointer none, .pointer none, .pointer (some ⟨x, 5, none⟩), .pointer none, .pointer none, .pointer none, .pointer none, .pointer none, .pointer none, .pointer none], .bool true]
  | _ => .tuple #[.agg #[.string ⟨#[]⟩, .string ⟨#[]⟩, .pointer none, .pointer none, .pointer none, .pointer none, .pointer none, .pointer none, .pointer none, .pointer none, .pointer none, .pointer none, .pointer none, .pointer none], .bool false]
theorem shapeR_out (x n : Nat) (h : n = 0 ∨ 15 < n) : shapeR x n = .tuple #[.agg #[.string ⟨#[]⟩, .string ⟨#[]⟩, .pointer none, .pointer none, .pointer none, .pointer none, .pointer none, .pointer none, .pointer none, .pointer none, .pointer none, .pointer none, .pointer none, .pointer none], .bool false] := by
  unfold shapeR
  split <;> first | omega | rfl
end Go.Proofs.YtinabbdecmjcpaaGreatDoor.Ev
