/- The closure of event's take, at four kinds of slots: a field is written, and the event's own cell is cleared. The contract of the shape's each, of a function that takes: the slots that the pattern has are handed on, one by one. -/
import Derived.Test.YtinabbdecmjcpaaGreatDoorGPut
import Derived.Test.YtinabbdecmjcpaaGreatDoorG02
import Derived.Test.YtinabbdecmjcpaaGreatDoorG09
namespace Go.Proofs.YtinabbdecmjcpaaGreatDoor.Ev
open Go.RowKit Go.Proofs.YtinabbdecmjcpaaGreatDoor Go.Proofs.YtinabbdecmjcpaaGreatDoor.Plain Go.Proofs.YtinabbdecmjcpaaGreatDoor.Words Go.Proofs.YtinabbdecmjcpaaGreatDoor.Named Go.Proofs.YtinabbdecmjcpaaGreatDoor.Hex Go.Proofs.YtinabbdecmjcpaaGreatDoor.Number
set_option linter.unusedVariables false

/-- A cell of each of two blocks is written; all else is as it was. -/
structure Take1 (g j x o : Nat) (v z : Value) (w w' : World) : Prop where
  chg : Chg [g, x] w w'
  gat : w'.cell? ⟨g, j, none⟩ = some v
  goth : ∀ k, k ≠ j → w'.cell? ⟨g, k, none⟩ = w.cell? ⟨g, k, none⟩
  xat : w'.cell? ⟨x, o, none⟩ = some z
  xoth : ∀ k, k ≠ o → w'.cell? ⟨x, k, none⟩ = w.cell? ⟨x, k, none⟩
  gfz : ∀ k, w'.frozen? ⟨g, k, none⟩ = w.frozen? ⟨g, k, none⟩
  xfz : ∀ k, w'.frozen? ⟨x, k, none⟩ = w.frozen? ⟨x, k, none⟩
theorem Take1.drew {g j x o : Nat} {v z : Value} {w w' : World} (h : Take1 g j x o v z w w') : Take1 g j x o v z w w'.drew := ⟨h.chg.drew, h.gat, h.goth, h.xat, h.xoth, h.gfz, h.xfz⟩
theorem Take1.right {g j x o : Nat} {v z : Value} {w w' w2 : World} (h : Take1 g j x o v z w w') (hg : g < w.heap.size) (hx : x < w.heap.size) (hb : Below w'.heap.size w' w2) : Take1 g j x o v z w w2 := by
  have lg : g < w'.heap.size := Nat.lt_of_lt_of_le hg h.chg.size
  have lx : x < w'.heap.size := Nat.lt_of_lt_of_le hx h.chg.size
  exact ⟨h.chg.trans (Chg.of_below hb), (hb.cell (p := ⟨g, j, none⟩) lg).trans h.gat, fun k hk => (hb.cell (p := ⟨g, k, none⟩) lg).trans (h.goth k hk), (hb.cell (p := ⟨x, o, none⟩) lx).trans h.xat, fun k hk => (hb.cell (p := ⟨x, k, none⟩) lx).trans (h.xoth k hk), fun k => (World.frozen?_of_block (w := w') (hb.block g lg)).trans (h.gfz k), fun k => (World.frozen?_of_block (w := w') (hb.block x lx)).trans (h.xfz k)⟩
theorem take1_set {g j x o : Nat} {a b v z : Value} {w : World} (hg : w.cell? ⟨g, j, none⟩ = some a) (hx : w.cell? ⟨x, o, none⟩ = some b) (hgx : g ≠ x) : Take1 g j x o v z w ((w.setCell ⟨g, j, none⟩ v).setCell ⟨x, o, none⟩ z) := by
  have ngx : ∀ (W : World) (u : Value) (k l : Nat), (W.setCell ⟨x, k, none⟩ u).cell? ⟨g, l, none⟩ = W.cell? ⟨g, l, none⟩ := fun W u k l => World.cell?_setCell_other _ _ _ _ (fun e => hgx (congrArg Addr.block e).symm)
  have nxg : ∀ (W : World) (u : Value) (k l : Nat), (W.setCell ⟨g, k, none⟩ u).cell? ⟨x, l, none⟩ = W.cell? ⟨x, l, none⟩ := fun W u k l => World.cell?_setCell_other _ _ _ _ (fun e => hgx (congrArg Addr.block e))
  refine ⟨((Chg.refl _ _).setCell (by simp) _).setCell (by simp) _, ?_, fun k hk => ?_, ?_, fun k hk => ?_, fun k => by simp, fun k => by simp⟩
  · rw [ngx]; exact World.cell?_setCell_same _ _ _ hg
  · rw [ngx, set14 _ _ _ _ _ (Ne.symm hk)]
  · exact World.cell?_setCell_same _ _ _ (by rw [nxg]; exact hx)
  · rw [set14 _ _ _ _ _ (Ne.symm hk), nxg]
theorem take1_of {g j x o : Nat} {a b v z : Value} {w : World} (ob : Obj) (hg : w.cell? ⟨g, j, none⟩ = some a) (hx : w.cell? ⟨x, o, none⟩ = some b) (hgx : g ≠ x) : Take1 g j x o v z w (((w.setCell ⟨g, j, none⟩ v).setCell ⟨x, o, none⟩ z).alloc ob) :=
  (take1_set hg hx hgx).right (World.block_lt_of_cell? _ _ hg) (World.block_lt_of_cell? _ _ hx) ((Below.refl _ _).alloc (Nat.le_refl _) _)

set_option maxRecDepth 100000 in
set_option maxHeartbeats 1000000 in
theorem take_int (i g n cap y x o : Nat) (z : Int) (u : Value) (w : World) (hi : i < n) (hn : n ≤ 1000000) (hy : w.cell? ⟨y, 0, none⟩ = some (.slice (some ⟨g, 0, none⟩) n cap)) (hc : w.cell? ⟨g, i * 3 + 1, none⟩ = some u) (hgf : w.frozen? ⟨g, i * 3 + 1, none⟩ = false) (hx : w.cell? ⟨x, o, none⟩ = some (.int .i64 z)) (hf : w.frozen? ⟨x, o, none⟩ = false) (hgx : g ≠ x) :
    Calls Tryz.prog 80 #[.int .i64 (i : Int), .agg #[.pointer (some ⟨x, o, none⟩), .pointer none, .pointer none, .pointer none], .pointer (some ⟨y, 0, none⟩)] w fun e w' => e = .returned (.tuple #[]) ∧ Take1 g (i * 3 + 1) x o (.int .u64 (u64 z : Nat)) (.int .i64 0) w w' := by
  have i0 : (0 : Int) ≤ (i : Int) := by omega
  have i1 : (i : Int) < (n : Int) := by omega
  have w1 : IntKind.u64.wrap z = ((u64 z : Nat) : Int) := by
    have : IntKind.u64.wrap z = z % 18446744073709551616 := rfl
    rw [this]; unfold u64; omega
  have ly := World.block_lt_of_cell? _ _ hy
  have lg := World.block_lt_of_cell? _ _ hc
  have lx := World.block_lt_of_cell? _ _ hx
  simp only at ly lg lx
  have my : y ≠ w.heap.size := by omega
  have mg : g ≠ w.heap.size := by omega
  have mx : x ≠ w.heap.size := by omega
  have hxg : x ≠ g := Ne.symm hgx
  have fin := fun (ob : Obj) (v zz : Value) => Lib.hid (take1_of (v := v) (z := zz) ob hc hx hgx)
  generalize u64 z = uz at *
  go_enter Tryz.func80, Tryz.ntmps80
  go_wp2
  go_region
  go_wp2
  go_end0
  exact ⟨rfl, ((fin _ _ _).out).drew⟩
set_option maxRecDepth 100000 in
set_option maxHeartbeats 1000000 in
theorem take_u64 (i g n cap y x o : Nat) (z : Nat) (u : Value) (w : World) (hi : i < n) (hn : n ≤ 1000000) (hy : w.cell? ⟨y, 0, none⟩ = some (.slice (some ⟨g, 0, none⟩) n cap)) (hc : w.cell? ⟨g, i * 3 + 1, none⟩ = some u) (hgf : w.frozen? ⟨g, i * 3 + 1, none⟩ = false) (hx : w.cell? ⟨x, o, none⟩ = some (.int .u64 (z : Int))) (hf : w.frozen? ⟨x, o, none⟩ = false) (hgx : g ≠ x) :
    Calls Tryz.prog 80 #[.int .i64 (i : Int), .agg #[.pointer none, .pointer (some ⟨x, o, none⟩), .pointer none, .pointer none], .pointer (some ⟨y, 0, none⟩)] w fun e w' => e = .returned (.tuple #[]) ∧ Take1 g (i * 3 + 1) x o (.int .u64 (z : Int)) (.int .u64 0) w w' := by
  have i0 : (0 : Int) ≤ (i : Int) := by omega
  have i1 : (i : Int) < (n : Int) := by omega
  have ly := World.block_lt_of_cell? _ _ hy
  have lg := World.block_lt_of_cell? _ _ hc
  have lx := World.block_lt_of_cell? _ _ hx
  simp only at ly lg lx
  have my : y ≠ w.heap.size := by omega
  have mg : g ≠ w.heap.size := by omega
  have mx : x ≠ w.heap.size := by omega
  have hxg : x ≠ g := Ne.symm hgx
  have fin := fun (ob : Obj) (v zz : Value) => Lib.hid (take1_of (v := v) (z := zz) ob hc hx hgx)
  go_enter Tryz.func80, Tryz.ntmps80
  go_wp2
  go_region
  go_wp2
  go_end0
  exact ⟨rfl, ((fin _ _ _).out).drew⟩
set_option maxRecDepth 100000 in
set_option maxHeartbeats 1000000 in
theorem take_text (i g n cap y x o : Nat) (z : ByteArray) (u : Value) (w : World) (hi : i < n) (hn : n ≤ 1000000) (hy : w.cell? ⟨y, 0, none⟩ = some (.slice (some ⟨g, 0, none⟩) n cap)) (hc : w.cell? ⟨g, i * 3, none⟩ = some u) (hgf : w.frozen? ⟨g, i * 3, none⟩ = false) (hx : w.cell? ⟨x, o, none⟩ = some (.string z)) (hf : w.frozen? ⟨x, o, none⟩ = false) (hgx : g ≠ x) :
    Calls Tryz.prog 80 #[.int .i64 (i : Int), .agg #[.pointer none, .pointer none, .pointer (some ⟨x, o, none⟩), .pointer none], .pointer (some ⟨y, 0, none⟩)] w fun e w' => e = .returned (.tuple #[]) ∧ Take1 g (i * 3) x o (.string z) (.string ⟨#[]⟩) w w' := by
  have i0 : (0 : Int) ≤ (i : Int) := by omega
  have i1 : (i : Int) < (n : Int) := by omega
  have ly := World.block_lt_of_cell? _ _ hy
  have lg := World.block_lt_of_cell? _ _ hc
  have lx := World.block_lt_of_cell? _ _ hx
  simp only at ly lg lx
  have my : y ≠ w.heap.size := by omega
  have mg : g ≠ w.heap.size := by omega
  have mx : x ≠ w.heap.size := by omega
  have hxg : x ≠ g := Ne.symm hgx
  have fin := fun (ob : Obj) (v zz : Value) => Lib.hid (take1_of (v := v) (z := zz) ob hc hx hgx)
  go_enter Tryz.func80, Tryz.ntmps80
  go_wp2
  go_region
  go_wp2
  go_end0
  exact ⟨rfl, ((fin _ _ _).out).drew⟩
set_option maxRecDepth 100000 in
set_option maxHeartbeats 1000000 in
theorem take_data (i g n cap y x o : Nat) (a : Option Addr) (ln cp : Nat) (u : Value) (w : World) (hi : i < n) (hn : n ≤ 1000000) (hy : w.cell? ⟨y, 0, none⟩ = some (.slice (some ⟨g, 0, none⟩) n cap)) (hc : w.cell? ⟨g, i * 3 + 2, none⟩ = some u) (hgf : w.frozen? ⟨g, i * 3 + 2, none⟩ = false) (hx : w.cell? ⟨x, o, none⟩ = some (.slice a ln cp)) (hf : w.frozen? ⟨x, o, none⟩ = false) (hgx : g ≠ x) :
    Calls Tryz.prog 80 #[.int .i64 (i : Int), .agg #[.pointer none, .pointer none, .pointer none, .pointer (some ⟨x, o, none⟩)], .pointer (some ⟨y, 0, none⟩)] w fun e w' => e = .returned (.tuple #[]) ∧ Take1 g (i * 3 + 2) x o (.slice a ln cp) (.slice none 0 0) w w' := by
  have i0 : (0 : Int) ≤ (i : Int) := by omega
  have i1 : (i : Int) < (n : Int) := by omega
  have ly := World.block_lt_of_cell? _ _ hy
  have lg := World.block_lt_of_cell? _ _ hc
  have lx := World.block_lt_of_cell? _ _ hx
  simp only at ly lg lx
  have my : y ≠ w.heap.size := by omega
  have mg : g ≠ w.heap.size := by omega
  have mx : x ≠ w.heap.size := by omega
  have hxg : x ≠ g := Ne.symm hgx
  have fin := fun (ob : Obj) (v zz : Value) => Lib.hid (take1_of (v := v) (z := zz) ob hc hx hgx)
  go_enter Tryz.func80, Tryz.ntmps80
  go_wp2
  go_region
  go_wp2
  go_end0
  exact ⟨rfl, ((fin _ _ _).out).drew⟩
end Go.Proofs.YtinabbdecmjcpaaGreatDoor.Ev

namespace Go.Proofs.YtinabbdecmjcpaaGreatDoor.Ev
open Go.RowKit Go.Proofs.YtinabbdecmjcpaaGreatDoor Go.Proofs.YtinabbdecmjcpaaGreatDoor.Plain Go.Proofs.YtinabbdecmjcpaaGreatDoor.Words Go.Proofs.YtinabbdecmjcpaaGreatDoor.Named Go.Proofs.YtinabbdecmjcpaaGreatDoor.Hex Go.Proofs.YtinabbdecmjcpaaGreatDoor.Number
set_option linter.unusedVariables false


set_option maxRecDepth 100000 in
set_option maxHeartbeats 4000000 in
theorem each_take (wd pat : ByteArray) (a2 a3 a4 a5 a6 a7 a8 a9 a10 a11 a12 a13 : Value) (cap : Value) (bs : List Nat) (w : World) (hp : pat.size ≤ 3) (hbs : ∀ b ∈ bs, b < w.heap.size) (I : Nat → World → Prop)
    (hI : ∀ i W W', I i W → Below W.heap.size W W' → I i W')
    (h0 : 0 < pat.size → ∀ W, I 0 W → Calls Tryz.prog 80 #[.int .i64 0, .agg #[a2, a3, a4, a5], cap] W (EachPost bs (I 1) W))
    (h1 : 1 < pat.size → ∀ W, I 1 W → Calls Tryz.prog 80 #[.int .i64 1, .agg #[a6, a7, a8, a9], cap] W (EachPost bs (I 2) W))
    (h2 : 2 < pat.size → ∀ W, I 2 W → Calls Tryz.prog 80 #[.int .i64 2, .agg #[a10, a11, a12, a13], cap] W (EachPost bs (I 3) W))
    (hs : I 0 w) : Calls Tryz.prog 79 #[.agg #[.string wd, .string pat, a2, a3, a4, a5, a6, a7, a8, a9, a10, a11, a12, a13], .func (.func 80) #[] #[cap]] w (EachPost bs (I pat.size) w) := by
  have H0 := Lib.hid h0
  have H1 := Lib.hid h1
  have H2 := Lib.hid h2
  have HI := Lib.hid hI
  have HS := Lib.hid hs
  have HBS := Lib.hid hbs
  have hR := C14.new w (.string wd) (.string pat) a2 a3 a4 a5 a6 a7 a8 a9 a10 a11 a12 a13 111
  have ba : Below w.heap.size w (w.alloc (.cells #[.string wd, .string pat, a2, a3, a4, a5, a6, a7, a8, a9, a10, a11, a12, a13] 111)) := (Below.refl _ _).alloc (Nat.le_refl _) _
  have RR := Lib.hid hR
  have BA := Lib.hid ba
  clear hR ba h0 h1 h2 hI hs hbs
  go_enter Tryz.func79, Tryz.ntmps79
  go_wp2
  go_loopw [8] (fun v wr => ∃ k : Nat, k ≤ pat.size ∧ v = .int .i64 k ∧ Hid (C14 wr w.heap.size (.string wd) (.string pat) a2 a3 a4 a5 a6 a7 a8 a9 a10 a11 a12 a13) ∧ Hid (Chg bs w wr) ∧ Hid (I k wr)) (fun v _ => pat.size - (intOf v).toNat)
  case atStart => exact ⟨0, by omega, rfl, RR, Lib.hid (Chg.of_below BA.out), Lib.hid (HI.out 0 _ _ HS.out BA.out)⟩
  case round =>
    obtain ⟨k, hk, rfl, hC, hch, hik⟩ := hrel
    by_cases hlt : k < pat.size
    · have hnb : w.heap.size ∉ bs := fun h => by have := HBS.out _ h; omega
      have HN := Lib.hid hnb
      clear hnb
      obtain ⟨c0, c1, c2, c3, c4, c5, c6, c7, c8, c9, c10, c11, c12, c13, cf⟩ := hC.out
      clear cf
      have hk3 : k = 0 ∨ k = 1 ∨ k = 2 := by omega
      rcases hk3 with rfl | rfl | rfl
      · have t : decide ((0 : Int) < (pat.size : Int)) = true := by simp; omega
        go_wp2_with (go_at_call 80; refine (H0.out hlt _ hik.out).mono ?_; rintro e w2 ⟨rfl, hc2, hi2⟩)
        go_roundw
        case rel => exact ⟨1, by omega, rfl, Lib.hid (hC.out.chg hc2 HN.out), Lib.hid (hch.out.trans hc2), Lib.hid hi2⟩
        case measure => simp [intOf]; omega
      · have t : decide ((1 : Int) < (pat.size : Int)) = true := by simp; omega
        go_wp2_with (go_at_call 80; refine (H1.out hlt _ hik.out).mono ?_; rintro e w2 ⟨rfl, hc2, hi2⟩)
        go_roundw
        case rel => exact ⟨2, by omega, rfl, Lib.hid (hC.out.chg hc2 HN.out), Lib.hid (hch.out.trans hc2), Lib.hid hi2⟩
        case measure => simp [intOf]; omega
      · have t : decide ((2 : Int) < (pat.size : Int)) = true := by simp; omega
        go_wp2_with (go_at_call 80; refine (H2.out hlt _ hik.out).mono ?_; rintro e w2 ⟨rfl, hc2, hi2⟩)
        go_roundw
        case rel => exact ⟨3, by omega, rfl, Lib.hid (hC.out.chg hc2 HN.out), Lib.hid (hch.out.trans hc2), Lib.hid hi2⟩
        case measure => simp [intOf]; omega
    · obtain rfl : k = pat.size := by omega
      go_wp2
      go_end0
      exact ⟨rfl, hch.out, hik.out⟩
end Go.Proofs.YtinabbdecmjcpaaGreatDoor.Ev
