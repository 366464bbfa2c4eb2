/- Contracts of the closure of event's put at three kinds of slots: one cell of the event is written, nothing else. -/
import Derived.Test.YtinabbdecmjcpaaGreatDoorGShape
import Derived.Test.YtinabbdecmjcpaaGreatDoorG07
namespace Go.Proofs.YtinabbdecmjcpaaGreatDoor.Ev
open Go.RowKit Go.Proofs.YtinabbdecmjcpaaGreatDoor Go.Proofs.YtinabbdecmjcpaaGreatDoor.Plain Go.Proofs.YtinabbdecmjcpaaGreatDoor.Words Go.Proofs.YtinabbdecmjcpaaGreatDoor.Named Go.Proofs.YtinabbdecmjcpaaGreatDoor.Hex Go.Proofs.YtinabbdecmjcpaaGreatDoor.Number
set_option linter.unusedVariables false

/-- One cell of a block is written; all else is as it was. -/
structure Put1 (x o : Nat) (v : Value) (w w' : World) : Prop where
  chg : Chg [x] w w'
  at' : w'.cell? ⟨x, o, none⟩ = some v
  oth : ∀ j, j ≠ o → w'.cell? ⟨x, j, none⟩ = w.cell? ⟨x, j, none⟩
  fz : ∀ j, w'.frozen? ⟨x, j, none⟩ = w.frozen? ⟨x, j, none⟩
theorem Put1.set {w : World} {x o : Nat} {u v : Value} (h : w.cell? ⟨x, o, none⟩ = some u) : Put1 x o v w (w.setCell ⟨x, o, none⟩ v) :=
  ⟨(Chg.refl _ _).setCell (p := ⟨x, o, none⟩) (by simp) _, World.cell?_setCell_same _ _ _ h, fun j hj => set14 _ _ _ _ _ (Ne.symm hj), fun j => by simp⟩
theorem Put1.right {w w' w2 : World} {x o : Nat} {v : Value} (hx : x < w.heap.size) (h : Put1 x o v w w') (hb : Below w'.heap.size w' w2) : Put1 x o v w w2 := by
  have hx' : x < w'.heap.size := Nat.lt_of_lt_of_le hx h.chg.size
  exact ⟨h.chg.trans (Chg.of_below hb), (hb.cell (p := ⟨x, o, none⟩) hx').trans h.at', fun j hj => (hb.cell (p := ⟨x, j, none⟩) hx').trans (h.oth j hj), fun j => (World.frozen?_of_block (w := w') (hb.block x hx')).trans (h.fz j)⟩
theorem Put1.left {w w1 w' : World} {x o : Nat} {v : Value} (hx : x < w.heap.size) (hb : Below w.heap.size w w1) (h : Put1 x o v w1 w') : Put1 x o v w w' :=
  ⟨(Chg.of_below hb).trans h.chg, h.at', fun j hj => (h.oth j hj).trans (hb.cell (p := ⟨x, j, none⟩) hx), fun j => (h.fz j).trans (World.frozen?_of_block (w := w) (hb.block x hx))⟩
theorem Put1.drew {w w' : World} {x o : Nat} {v : Value} (h : Put1 x o v w w') : Put1 x o v w w'.drew := ⟨h.chg.drew, h.at', h.oth, h.fz⟩

set_option maxRecDepth 100000 in
set_option maxHeartbeats 1000000 in
theorem put_int (i g n cap y x o : Nat) (nn : Nat) (u : Value) (w : World) (hi : i < n) (hn : n ≤ 1000000) (hnn : nn ≤ 2147483647) (hy : w.cell? ⟨y, 0, none⟩ = some (.slice (some ⟨g, 0, none⟩) n cap)) (hc : w.cell? ⟨g, i * 3 + 1, none⟩ = some (.int .u64 (nn : Int))) (hx : w.cell? ⟨x, o, none⟩ = some u) (hf : w.frozen? ⟨x, o, none⟩ = false) :
    Calls Tryz.prog 87 #[.int .i64 (i : Int), .agg #[.pointer (some ⟨x, o, none⟩), .pointer none, .pointer none, .pointer none], .pointer (some ⟨y, 0, none⟩)] w fun e w' => e = .returned (.tuple #[]) ∧ Put1 x o (.int .i64 (nn : Int)) w w' := by
  have i0 : (0 : Int) ≤ (i : Int) := by omega
  have i1 : (i : Int) < (n : Int) := by omega
  have w1 : IntKind.i64.wrap (nn : Int) = (nn : Int) := IntWalk.i64_in _ (by omega)
  have ly := World.block_lt_of_cell? _ _ hy
  have lg := World.block_lt_of_cell? _ _ hc
  have lx := World.block_lt_of_cell? _ _ hx
  simp only at ly lg lx
  have my : y ≠ w.heap.size := by omega
  have mg : g ≠ w.heap.size := by omega
  have mx : x ≠ w.heap.size := by omega
  go_enter Tryz.func87, Tryz.ntmps87
  go_wp2
  go_region
  go_wp2
  go_end0
  exact ⟨rfl, ((Put1.set (v := .int .i64 (nn : Int)) hx).right lx ((Below.refl _ _).alloc (Nat.le_refl _) _)).drew⟩
set_option maxRecDepth 100000 in
set_option maxHeartbeats 1000000 in
theorem put_u64 (i g n cap y x o : Nat) (nn : Nat) (u : Value) (w : World) (hi : i < n) (hn : n ≤ 1000000) (hy : w.cell? ⟨y, 0, none⟩ = some (.slice (some ⟨g, 0, none⟩) n cap)) (hc : w.cell? ⟨g, i * 3 + 1, none⟩ = some (.int .u64 (nn : Int))) (hx : w.cell? ⟨x, o, none⟩ = some u) (hf : w.frozen? ⟨x, o, none⟩ = false) :
    Calls Tryz.prog 87 #[.int .i64 (i : Int), .agg #[.pointer none, .pointer (some ⟨x, o, none⟩), .pointer none, .pointer none], .pointer (some ⟨y, 0, none⟩)] w fun e w' => e = .returned (.tuple #[]) ∧ Put1 x o (.int .u64 (nn : Int)) w w' := by
  have i0 : (0 : Int) ≤ (i : Int) := by omega
  have i1 : (i : Int) < (n : Int) := by omega
  have ly := World.block_lt_of_cell? _ _ hy
  have lg := World.block_lt_of_cell? _ _ hc
  have lx := World.block_lt_of_cell? _ _ hx
  simp only at ly lg lx
  have my : y ≠ w.heap.size := by omega
  have mg : g ≠ w.heap.size := by omega
  have mx : x ≠ w.heap.size := by omega
  go_enter Tryz.func87, Tryz.ntmps87
  go_wp2
  go_region
  go_wp2
  go_end0
  exact ⟨rfl, ((Put1.set (v := .int .u64 (nn : Int)) hx).right lx ((Below.refl _ _).alloc (Nat.le_refl _) _)).drew⟩
set_option maxRecDepth 100000 in
set_option maxHeartbeats 1000000 in
theorem put_text (i g n cap y x o : Nat) (tx : ByteArray) (u : Value) (w : World) (hi : i < n) (hn : n ≤ 1000000) (hy : w.cell? ⟨y, 0, none⟩ = some (.slice (some ⟨g, 0, none⟩) n cap)) (hc : w.cell? ⟨g, i * 3, none⟩ = some (.string tx)) (hx : w.cell? ⟨x, o, none⟩ = some u) (hf : w.frozen? ⟨x, o, none⟩ = false) :
    Calls Tryz.prog 87 #[.int .i64 (i : Int), .agg #[.pointer none, .pointer none, .pointer (some ⟨x, o, none⟩), .pointer none], .pointer (some ⟨y, 0, none⟩)] w fun e w' => e = .returned (.tuple #[]) ∧ Put1 x o (.string tx) w w' := by
  have i0 : (0 : Int) ≤ (i : Int) := by omega
  have i1 : (i : Int) < (n : Int) := by omega
  have ly := World.block_lt_of_cell? _ _ hy
  have lg := World.block_lt_of_cell? _ _ hc
  have lx := World.block_lt_of_cell? _ _ hx
  simp only at ly lg lx
  have my : y ≠ w.heap.size := by omega
  have mg : g ≠ w.heap.size := by omega
  have mx : x ≠ w.heap.size := by omega
  go_enter Tryz.func87, Tryz.ntmps87
  go_wp2
  go_region
  go_wp2
  go_end0
  exact ⟨rfl, ((Put1.set (v := .string tx) hx).right lx ((Below.refl _ _).alloc (Nat.le_refl _) _)).drew⟩
end Go.Proofs.YtinabbdecmjcpaaGreatDoor.Ev
