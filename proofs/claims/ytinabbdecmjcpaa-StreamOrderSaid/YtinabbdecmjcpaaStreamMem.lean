/- The four rows of StreamOrder in memory: what came, and what was moved, each way. No walk. -/
import Derived.Test.YtinabbdecmjcpaaStreamStep
namespace Go.Proofs.Ytinabbdecmjcpaa.Stream
open Go.RowKit Go.Proofs.Ytinabbdecmjcpaa Go.Proofs.Ytinabbdecmjcpaa.Plain Go.Proofs.Ytinabbdecmjcpaa.Words Go.Proofs.Ytinabbdecmjcpaa.Named Go.Proofs.Ytinabbdecmjcpaa.Hex Go.Proofs.Ytinabbdecmjcpaa.Queue
set_option linter.unusedVariables false

/-- One of four is another one. -/
def upd {α : Type} (f : Nat → α) (j : Nat) (x : α) : Nat → α := fun i => if i = j then x else f i
theorem upd_same {α : Type} (f : Nat → α) (j : Nat) (x : α) : upd f j x j = x := by simp [upd]
theorem upd_other {α : Type} (f : Nat → α) (j i : Nat) (x : α) (h : i ≠ j) : upd f j x i = f i := by simp [upd, h]

structure Mem (w : World) (N : Nat) (vs : Nat → Value) (ls : Nat → List UInt8) : Prop where
  cell : ∀ j, j < 4 → w.cell? ⟨N + j / 2, j % 2, none⟩ = some (vs j)
  free : ∀ j, j < 4 → w.frozen? ⟨N + j / 2, j % 2, none⟩ = false
  own : ∀ j, j < 4 → Bys w (N + 2) (vs j) (ls j)
  apart : ∀ i j, i < 4 → j < 4 → i ≠ j → Apart (vs i) (vs j)

section
variable {w w' : World} {N : Nat} {vs : Nat → Value} {ls : Nat → List UInt8}
theorem Mem.lt (h : Mem w N vs ls) : N + 1 < w.heap.size := World.block_lt_of_cell? _ _ (h.cell 2 (by omega))
theorem Mem.drew (h : Mem w N vs ls) : Mem w.drew N vs ls := ⟨h.cell, h.free, fun j hj => bys_drew (h.own j hj), h.apart⟩
theorem Mem.chg {bs : List Nat} (h : Mem w N vs ls) (hc : Chg bs w w') (hb : ∀ b ∈ bs, b < N) : Mem w' N vs ls :=
  ⟨fun j hj => (hc.cell (p := ⟨N + j / 2, j % 2, none⟩) (World.block_lt_of_cell? _ _ (h.cell j hj)) (fun x => by have := hb _ x; simp at this; omega)).trans (h.cell j hj),
   fun j hj => (hc.frozen (p := ⟨N + j / 2, j % 2, none⟩) (World.block_lt_of_cell? _ _ (h.cell j hj)) (fun x => by have := hb _ x; simp at this; omega)).trans (h.free j hj),
   fun j hj => bys_chg (h.own j hj) hc (fun b x => by have := hb b x; omega), h.apart⟩
theorem Mem.below (h : Mem w N vs ls) (hb : Below w.heap.size w w') : Mem w' N vs ls := h.chg (bs := []) (Chg.of_below hb) (by simp)
/-- A cell while a row of the four grows. -/
theorem Mem.grown_cell {w1 : World} {j : Nat} (h : Mem w N vs ls) (hj : j < 4) (hg : w.grownBy w1 (vs j).ownBlock) (p : Addr) (hp : p.block < N + 2) (hlt : p.block < w.heap.size) : w1.cell? p = w.cell? p ∧ w1.frozen? p = w.frozen? p := by
  have hb := hg.block p.block hlt (fun e => by have := (bys_lt (h.own j hj) e.symm).1; omega)
  exact ⟨World.cell?_of_block (w := w) hb, World.frozen?_of_block (w := w) hb⟩
theorem Mem.put {w1 : World} {j : Nat} {v' : Value} {l' : List UInt8} (h : Mem w N vs ls) (hj : j < 4) (hown : Bys w1 (N + 2) v' l') (hg : w.grownBy w1 (vs j).ownBlock) (hat : v'.ownBlock = (vs j).ownBlock ∨ v'.ownBlock = some w.heap.size) :
    Mem (w1.setCell ⟨N + j / 2, j % 2, none⟩ v') N (upd vs j v') (upd ls j l') := by
  have hlt := h.lt
  have hw1 : ∀ i, i < 4 → w1.cell? ⟨N + i / 2, i % 2, none⟩ = some (vs i) ∧ w1.frozen? ⟨N + i / 2, i % 2, none⟩ = false := fun i hi => by
    have := h.grown_cell hj hg ⟨N + i / 2, i % 2, none⟩ (by show N + i / 2 < N + 2; omega) (by show N + i / 2 < w.heap.size; omega)
    exact ⟨this.1.trans (h.cell i hi), this.2.trans (h.free i hi)⟩
  refine ⟨fun i hi => ?_, fun i hi => ?_, fun i hi => ?_, fun i k hi hk hne => ?_⟩
  · by_cases e : i = j
    · subst e
      rw [upd_same, World.cell?_setCell_same _ _ _ (hw1 i hi).1]
    · rw [upd_other _ _ _ _ e, World.cell?_setCell_other _ _ _ _ (fun x => e (by
        have a := congrArg Addr.block x
        have b := congrArg Addr.off x
        simp at a b
        omega))]
      exact (hw1 i hi).1
  · simpa using (hw1 i hi).2
  · by_cases e : i = j
    · subst e
      rw [upd_same, upd_same]
      exact ownsRow_set hown (by show N + i / 2 < N + 2; omega) _
    · rw [upd_other _ _ _ _ e, upd_other _ _ _ _ e]
      exact ownsRow_set (bys_grown (h.own i hi) hg (h.apart i j hi hj e)) (by show N + j / 2 < N + 2; omega) _
  · by_cases e : i = j
    · subst e
      rw [upd_same, upd_other _ _ _ _ (Ne.symm hne)]
      exact apart_new (h.own k hk) (h.apart i k hi hk hne) hat
    · rw [upd_other _ _ _ _ e]
      by_cases e2 : k = j
      · subst e2
        rw [upd_same]
        exact (apart_new (h.own i hi) (h.apart k i hk hi (Ne.symm hne)) hat).symm
      · rw [upd_other _ _ _ _ e2]
        exact h.apart i k hi hk hne
/-- A stream while a row of the four grows, and the row is stored. -/
theorem SIs.put {w1 : World} {j s b0 b1 : Nat} {tgt : ByteArray} {t : SS} {v' : Value} (hs : SIs w s b0 b1 tgt t) (h : Mem w N vs ls) (hj : j < 4) (hg : w.grownBy w1 (vs j).ownBlock) (h0 : s < N) (h1 : b0 < N) (h2 : b1 < N) :
    SIs (w1.setCell ⟨N + j / 2, j % 2, none⟩ v') s b0 b1 tgt t := by
  have hc : Chg [N, N + 1] w (w1.setCell ⟨N + j / 2, j % 2, none⟩ v') ∨ ∃ r, N + 2 ≤ r ∧ Chg [N, N + 1, r] w (w1.setCell ⟨N + j / 2, j % 2, none⟩ v') := by
    have hm : N + j / 2 = N ∨ N + j / 2 = N + 1 := by omega
    cases e : (vs j).ownBlock with
    | none =>
      rw [e] at hg
      exact .inl (Chg.setCell (p := ⟨N + j / 2, j % 2, none⟩) ⟨hg.os, hg.tape, hg.output, hg.size, fun k hk _ => hg.block k hk (fun e => by cases e)⟩ (by show N + j / 2 ∈ _; simp; omega) _)
    | some r =>
      rw [e] at hg
      exact .inr ⟨r, (bys_lt (h.own j hj) e).1, Chg.setCell (p := ⟨N + j / 2, j % 2, none⟩) ⟨hg.os, hg.tape, hg.output, hg.size, fun k hk hn => hg.block k hk (fun e => hn (by cases e; simp))⟩ (by show N + j / 2 ∈ _; simp; omega) _⟩
  rcases hc with hc | ⟨r, hr, hc⟩
  · exact SAt.chg hs hc (by simp; omega) (by simp; omega) (by simp; omega)
  · exact SAt.chg hs hc (by simp; omega) (by simp; omega) (by simp; omega)
theorem below_put {w0 w1 : World} {j : Nat} {v' : Value} (hb : Below w0.heap.size w0 w) (h : Mem w N vs ls) (hj : j < 4) (hg : w.grownBy w1 (vs j).ownBlock) (hN : w0.heap.size ≤ N) : Below w0.heap.size w0 (w1.setCell ⟨N + j / 2, j % 2, none⟩ v') :=
  (hb.grown hg hb.size (fun k hk => by have := (bys_lt (h.own j hj) hk).1; omega)).setCell (by show w0.heap.size ≤ N + j / 2; omega) _
theorem SIs.drew {s b0 b1 : Nat} {tgt : ByteArray} {t : SS} (hs : SIs w s b0 b1 tgt t) : SIs w.drew s b0 b1 tgt t := SAt.chg (bs := []) hs (Chg.refl _ _).drew (by simp) (by simp) (by simp)
end

/-- What the loop keeps. -/
def Rel (w : World) (s b0 b1 N len : Nat) (tgt : ByteArray) (g i : Value) (wr : World) : Prop :=
  ∃ (k : Nat) (up dn : List UInt8) (vs : Nat → Value) (ls : Nat → List UInt8) (cr : Int) (en : Bool), k ≤ len ∧ i = .int .i64 k ∧ g = .int .i64 (cr + (ls 3).length) ∧
    SIs wr s b0 b1 tgt ⟨up, dn, (ls 0).length, (ls 2).length, (ls 1).length, (ls 3).length, cr, en⟩ ∧ Mem wr N vs ls ∧ ls 0 = ls 2 ++ up ∧ ls 1 = ls 3 ++ dn ∧ (ls 0).length ≤ 64 * k ∧ (ls 1).length ≤ 64 * k ∧ Below w.heap.size w wr

theorem mem_start (w : World) : Mem ((w.alloc (.cells #[.slice none 0 0, .slice none 0 0] 58)).alloc (.cells #[.slice none 0 0, .slice none 0 0] 58)) w.heap.size (fun _ => .slice none 0 0) (fun _ => []) := by
  have hz : (w.alloc (.cells #[.slice none 0 0, .slice none 0 0] 58)).heap.size = w.heap.size + 1 := by simp
  have hb : Below (w.heap.size + 1) (w.alloc (.cells #[.slice none 0 0, .slice none 0 0] 58)) ((w.alloc (.cells #[.slice none 0 0, .slice none 0 0] 58)).alloc (.cells #[.slice none 0 0, .slice none 0 0] 58)) := (Below.refl _ _).alloc (by rw [hz]; exact Nat.le_refl _) _
  refine ⟨fun j hj => ?_, fun j hj => ?_, fun j hj => World.ownsRow_nil _ _ _ _, fun i j _ _ _ g h => by cases h⟩
  · match j, hj with
    | 0, _ => exact (hb.cell (p := ⟨w.heap.size + 0 / 2, 0 % 2, none⟩) (by show w.heap.size + 0 / 2 < _; omega)).trans (World.cell?_alloc_at _ _ _ _ rfl)
    | 1, _ => exact (hb.cell (p := ⟨w.heap.size + 1 / 2, 1 % 2, none⟩) (by show w.heap.size + 1 / 2 < _; omega)).trans (World.cell?_alloc_at _ _ _ _ rfl)
    | 2, _ => exact World.cell?_alloc_at _ _ _ _ (by rw [hz])
    | 3, _ => exact World.cell?_alloc_at _ _ _ _ (by rw [hz])
  · match j, hj with
    | 0, _ => exact (hb.frozen (p := ⟨w.heap.size + 0 / 2, 0 % 2, none⟩) (by show w.heap.size + 0 / 2 < _; omega)).trans (World.frozen?_alloc_at _ _ _ _ rfl)
    | 1, _ => exact (hb.frozen (p := ⟨w.heap.size + 1 / 2, 1 % 2, none⟩) (by show w.heap.size + 1 / 2 < _; omega)).trans (World.frozen?_alloc_at _ _ _ _ rfl)
    | 2, _ => exact World.frozen?_alloc_at _ _ _ _ (by rw [hz])
    | 3, _ => exact World.frozen?_alloc_at _ _ _ _ (by rw [hz])
end Go.Proofs.Ytinabbdecmjcpaa.Stream
