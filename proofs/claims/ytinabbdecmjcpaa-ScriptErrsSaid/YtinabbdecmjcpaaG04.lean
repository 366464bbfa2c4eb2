/- A frame for calls that write into known blocks: all other blocks that were there are as they were. And the append of bytes as a law. No program in sight but for the append's types. A range over the lines of a text: what the body of a round must keep, and what is known behind the loop. -/
import Derived.Laws.AppendOwnNone
import Derived.Test.YtinabbdecmjcpaaG03
import Derived.Test.YtinabbdecmjcpaaG02
namespace Go.Proofs.Ytinabbdecmjcpaa
open Go.RowKit

/-- Only the blocks of a list may have changed; new ones may have come. -/
structure Chg (bs : List Nat) (w w' : World) : Prop where
  os : w'.os = w.os
  tape : w'.tape = w.tape
  output : w'.output = w.output
  size : w.heap.size ≤ w'.heap.size
  block : ∀ k, k < w.heap.size → k ∉ bs → w'.heap[k]? = w.heap[k]?

namespace Chg
theorem refl (bs : List Nat) (w : World) : Chg bs w w := ⟨rfl, rfl, rfl, Nat.le_refl _, fun _ _ _ => rfl⟩
theorem trans {bs : List Nat} {a b c : World} (h : Chg bs a b) (k : Chg bs b c) : Chg bs a c :=
  ⟨k.os.trans h.os, k.tape.trans h.tape, k.output.trans h.output, Nat.le_trans h.size k.size, fun i hi hb => (k.block i (Nat.lt_of_lt_of_le hi h.size) hb).trans (h.block i hi hb)⟩
theorem mono {bs cs : List Nat} {a b : World} (h : Chg bs a b) (hs : ∀ x ∈ bs, x ∈ cs) : Chg cs a b :=
  ⟨h.os, h.tape, h.output, h.size, fun i hi hb => h.block i hi fun x => hb (hs i x)⟩
theorem of_below {bs : List Nat} {a b : World} (h : Below a.heap.size a b) : Chg bs a b :=
  ⟨h.os, h.tape, h.output, h.size, fun i hi _ => h.block i hi⟩
theorem drew {bs : List Nat} {a b : World} (h : Chg bs a b) : Chg bs a b.drew := ⟨h.os, h.tape, h.output, h.size, h.block⟩
theorem undrew {bs : List Nat} {a b : World} (h : Chg bs a.drew b) : Chg bs a b := ⟨h.os, h.tape, h.output, h.size, h.block⟩
theorem alloc {bs : List Nat} {a b : World} (h : Chg bs a b) (o : Obj) : Chg bs a (b.alloc o) :=
  h.trans (of_below ((Below.refl _ _).alloc (Nat.le_refl _) o))
theorem setCell {bs : List Nat} {a b : World} (h : Chg bs a b) {p : Addr} (hp : p.block ∈ bs) (u : Value) : Chg bs a (b.setCell p u) :=
  h.trans ⟨rfl, rfl, rfl, by simp, fun i hi hb => Below.heap_setCell _ _ _ _ (fun e => hb (e ▸ hp))⟩
/-- A store into a block that is new. -/
theorem setNew {bs : List Nat} {a b : World} (h : Chg bs a b) {p : Addr} (hp : a.heap.size ≤ p.block) (u : Value) : Chg bs a (b.setCell p u) :=
  ⟨h.os, h.tape, h.output, by simpa using h.size, fun i hi hb => (Below.heap_setCell _ _ _ _ (by omega)).trans (h.block i hi hb)⟩
/-- What lies below all of the blocks is as it was. -/
theorem below {bs : List Nat} {B : Nat} {a b : World} (h : Chg bs a b) (hB : B ≤ a.heap.size) (hb : ∀ x ∈ bs, B ≤ x) : Below B a b :=
  ⟨h.os, h.tape, h.output, h.size, fun i hi => h.block i (by omega) fun x => by have := hb i x; omega⟩
theorem cell {bs : List Nat} {a b : World} (h : Chg bs a b) {p : Addr} (hp : p.block < a.heap.size) (hb : p.block ∉ bs) : b.cell? p = a.cell? p := World.cell?_of_block (w := a) (h.block p.block hp hb)
theorem frozen {bs : List Nat} {a b : World} (h : Chg bs a b) {p : Addr} (hp : p.block < a.heap.size) (hb : p.block ∉ bs) : b.frozen? p = a.frozen? p := World.frozen?_of_block (w := a) (h.block p.block hp hb)
theorem grown {bs : List Nat} {a b c : World} {row : Option Nat} (h : Chg bs a b) (hg : b.grownBy c row) (hr : ∀ k, row = some k → a.heap.size ≤ k) : Chg bs a c := by
  have hb : Below a.heap.size b c := (Below.refl _ _).grown hg h.size hr
  exact ⟨hb.os.trans h.os, hb.tape.trans h.tape, hb.output.trans h.output, Nat.le_trans h.size hb.size, fun i hi hx => (hb.block i hi).trans (h.block i hi hx)⟩
end Chg
end Go.Proofs.Ytinabbdecmjcpaa

namespace Go.Proofs.Ytinabbdecmjcpaa.Script
open Go.RowKit Go.Shelf Go.Proofs.Ytinabbdecmjcpaa Go.Proofs.Ytinabbdecmjcpaa.Plain Go.Proofs.Ytinabbdecmjcpaa.Words
attribute [local go_sem] Oper.semAt_some
set_option linter.unusedVariables false

/-- What the loop's book-keeping leaves alone: all but block B, and objects from N on that are no cells. -/
structure Kept (B N : Nat) (W W' : World) : Prop where
  os : W'.os = W.os
  tape : W'.tape = W.tape
  output : W'.output = W.output
  size : W.heap.size ≤ W'.heap.size
  block : ∀ k, k < W.heap.size → k ≠ B → W'.heap[k]? = W.heap[k]? ∨ (N ≤ k ∧ ∃ o : Obj, W.heap[k]? = some o ∧ o.isCells = false)
theorem Kept.putObj {B N : Nat} {W : World} {l : Nat} {o : Obj} (o' : Obj) (hl : W.heap[l]? = some o) (ho : o.isCells = false) (hn : N ≤ l) : Kept B N W (W.putObj l o') :=
  ⟨rfl, rfl, rfl, by simp, fun k hk _ => by
    by_cases e : k = l
    · subst e; exact .inr ⟨hn, o, hl, ho⟩
    · exact .inl (World.putObj_heap_other e)⟩
theorem Kept.alloc {B N : Nat} (W : World) (o : Obj) : Kept B N W (W.alloc o) := ⟨rfl, rfl, rfl, by simp, fun k hk _ => .inl (Below.heap_alloc W o k hk)⟩
theorem Kept.setCell {B N : Nat} (W : World) (v : Value) : Kept B N W (W.setCell ⟨B, 0, none⟩ v) := ⟨rfl, rfl, rfl, by simp, fun k hk hb => .inl (Below.heap_setCell _ _ _ _ hb)⟩
theorem Kept.drew {B N : Nat} (W : World) : Kept B N W W.drew := ⟨rfl, rfl, rfl, Nat.le_refl _, fun k hk _ => .inl rfl⟩
/-- A block of cells, but for B, lies as it lay. -/
theorem Kept.cells {B N : Nat} {W W' : World} (h : Kept B N W W') {k : Nat} {o : Obj} (hk : W.heap[k]? = some o) (ho : o.isCells = true) (hb : k ≠ B) : W'.heap[k]? = W.heap[k]? := by
  rcases h.block k (Array.getElem?_eq_some_iff.1 hk).1 hb with e | ⟨_, o2, h2, h3⟩
  · exact e
  · rw [hk] at h2
    cases h2
    rw [ho] at h3
    cases h3
theorem Kept.cell {B N : Nat} {W W' : World} (h : Kept B N W W') {b i : Nat} {v : Value} (hc : W.cell? ⟨b, i, none⟩ = some v) (hb : b ≠ B) : W'.cell? ⟨b, i, none⟩ = some v := by
  obtain ⟨o, ho, hcs⟩ := cells_of_cell hc
  exact (World.cell?_of_block (w := W) (h.cells ho hcs hb)).trans hc
theorem Kept.frozen {B N : Nat} {W W' : World} (h : Kept B N W W') {b i j : Nat} {v : Value} {f : Bool} (hc : W.cell? ⟨b, j, none⟩ = some v) (hb : b ≠ B) (hf : W.frozen? ⟨b, i, none⟩ = f) : W'.frozen? ⟨b, i, none⟩ = f := by
  obtain ⟨o, ho, hcs⟩ := cells_of_cell hc
  exact (World.frozen?_of_block (w := W) (a := ⟨b, i, none⟩) (h.cells ho hcs hb)).trans hf
theorem Kept.below {B N n : Nat} {w W W' : World} (h : Kept B N W W') (hb : Below n w W) (hn : n ≤ w.heap.size) (hB : n ≤ B) (hN : n ≤ N) : Below n w W' :=
  ⟨h.os.trans hb.os, h.tape.trans hb.tape, h.output.trans hb.output, Nat.le_trans hb.size h.size, fun k hk => by
    have hk' : k < W.heap.size := Nat.lt_of_lt_of_le (Nat.lt_of_lt_of_le hk hn) hb.size
    rcases h.block k hk' (by omega) with e | ⟨h1, _⟩
    · exact e.trans (hb.block k hk)
    · omega⟩
/-- Calls that write into blocks of cells leave all that is no cells alone. -/
theorem keeps_chg {bs : List Nat} {W W' : World} (h : Chg bs W W') (hb : ∀ b ∈ bs, ∃ o : Obj, W.heap[b]? = some o ∧ o.isCells = true) : KeepsOthers W W' :=
  ⟨h.size, fun k o hk ho => by
    have hl := (Array.getElem?_eq_some_iff.1 hk).1
    by_cases e : k ∈ bs
    · obtain ⟨o2, h2, h3⟩ := hb k e
      rw [hk] at h2
      cases h2
      rw [ho] at h3
      cases h3
    · exact (h.block k hl e).trans hk⟩

/-- How the body of a round may be left. -/
def roundEnd (B : Nat) (I Ix : List ByteArray → World → Prop) (xs : List ByteArray) (W : World) : Exit → Act → World → Prop
  | .normal, _, W' => KeepsOthers W W' ∧ W'.cell? ⟨B, 0, none⟩ = W.cell? ⟨B, 0, none⟩ ∧ W'.frozen? ⟨B, 0, none⟩ = W.frozen? ⟨B, 0, none⟩ ∧ I xs W'
  | .ret, _, W' => KeepsOthers W W' ∧ Ix xs W'
  | _, _, _ => False

set_option maxHeartbeats 1000000 in
theorem range_lines {n : Nat} {g : Operand} {ps : Array Tmp} {assign body : Code} {Q : Exit → Act → World → Prop} {a : Act} {w : World} (B : Nat) (s : ByteArray) (h1 : 1 ≤ n) (hg : a.eval g = .func (.func 88) #[] #[.pointer (some ⟨B, 0, none⟩)])
    (hs : s.size ≤ 1000000000000) (hB : w.cell? ⟨B, 0, none⟩ = some (.string s)) (hf : w.frozen? ⟨B, 0, none⟩ = false) (hps : ps.size = 1)
    (I Ix : List ByteArray → World → Prop) (hI : ∀ pre W W', I pre W → Kept B w.heap.size W W' → I pre W') (hIx : ∀ pre W W', Ix pre W → Kept B w.heap.size W W' → Ix pre W') (h0 : I [] w) (a₁ : ByteArray → Act)
    (hassign : ∀ (l : Nat) (x : ByteArray) (W : World) (K : Act → World → Prop), K (a₁ x) W →
      assign.wpIn (Fence.wide.inRound l) (n - 1 - 1) Try.prog (Exit.then K (fun _ _ _ => False)) { tmps := (ps.zip #[.string x]).foldl (fun t (p, v) => t.setIfInBounds p v) a.tmps, defers := [] } W)
    (hbody : ∀ (l : Nat) (pre : List ByteArray) (x : ByteArray) (W : World), I pre W → (pre ++ [x]).map L <+: linesOf (L s) → body.wpIn (Fence.wide.inRound l) (n - 1 - 1) Try.prog (roundEnd B I Ix (pre ++ [x]) W) (a₁ x) W)
    (hdone : ∀ (D : Nat) (xs : List ByteArray) (W : World), w.heap.size ≤ D → xs.map L = linesOf (L s) → I xs W → W.heap[D]? = some (.deferred (some [])) → Q .normal { a with defers := { target := .collected D, args := #[] } :: a.defers } W)
    (hstop : ∀ (D : Nat) (pre : List ByteArray) (W : World), w.heap.size ≤ D → pre.map L <+: linesOf (L s) → Ix pre W → W.heap[D]? = some (.deferred (some [])) → Code.ret.wpIn Fence.wide n Try.prog Q { a with defers := { target := .collected D, args := #[] } :: a.defers } W) :
    (Code.rangeFunc g ps assign body).wpIn Fence.wide n Try.prog Q a w := by
  have hBl : B < w.heap.size := World.block_lt_of_cell? _ _ hB
  refine wpIn_rangeFunc ?_
  intro fn hfn
  obtain ⟨rec, hrec⟩ : ∃ rec : LoopState → Option Code → Loop, rec = fun st pe => { state := st, pending := pe, fn, tmps := a.tmps, params := ps, assign, body, defers := w.heap.size } := ⟨_, rfl⟩
  have hL1 : ((w.alloc (.deferred (some []))).alloc (.loop (rec .ready none))).heap[w.heap.size + 1]? = some (.loop (rec .ready none)) := by
    have := World.alloc_heap_new (w.alloc (.deferred (some []))) (.loop (rec .ready none))
    rwa [World.size_alloc] at this
  have hK1 : ((w.alloc (.deferred (some []))).alloc (.loop (rec .ready none))).heap[w.heap.size]? = some (.deferred (some [])) :=
    (Below.heap_alloc _ _ _ (by simp)).trans (World.alloc_heap_new w _)
  have hI1 : I [] ((w.alloc (.deferred (some []))).alloc (.loop (rec .ready none))) := hI _ _ _ (hI _ _ _ h0 (Kept.alloc _ _)) (Kept.alloc _ _)
  have hb1 : Below w.heap.size w ((w.alloc (.deferred (some []))).alloc (.loop (rec .ready none))) := ((Below.refl _ w).alloc (Nat.le_refl _) _).alloc (by simp) _
  have hB1 := (hb1.cell (p := ⟨B, 0, none⟩) hBl).trans hB
  have hf1 := (World.frozen?_of_block (w := w) (a := ⟨B, 0, none⟩) (hb1.block B hBl)).trans hf
  generalize hW1 : (w.alloc (.deferred (some []))).alloc (.loop (rec .ready none)) = W1 at *
  refine ⟨w.heap.size + 1, [{ target := .collected w.heap.size, args := #[] }], W1, { target := .fn (.func 88) #[.pointer (some ⟨B, 0, none⟩)], args := #[.func (.yield (w.heap.size + 1)) #[] #[]] }, W1, 88,
    #[.func (.yield (w.heap.size + 1)) #[] #[], .pointer (some ⟨B, 0, none⟩)], W1, ?_, ?_, fun _ _ => trivial, ?_, fun _ => h1, ?_⟩
  · rw [← hW1, hrec]
    exact run_enterLoop_outer _ _ _ _ _
  · simp only [resolve, hg]
    simp [go_sem]
  · have eg := enters_of (P := Try.prog) Try.func88 (by kernel_rfl) rfl
    simp [invoke, go_sem, eg #[.func (.yield (w.heap.size + 1)) #[] #[], .pointer (some ⟨B, 0, none⟩)] W1]
  · have hne : ∀ k : Nat, w.heap.size ≤ k → k ≠ B := fun k hk => by omega
    refine (lines1_in (n - 1) (w.heap.size + 1) B s
      (fun pre W => I pre W ∧ W.heap[w.heap.size + 1]? = some (.loop (rec .ready none)) ∧ W.heap[w.heap.size]? = some (.deferred (some [])))
      (fun pre W => Ix pre W ∧ W.heap[w.heap.size + 1]? = some (.loop (rec .done (some .ret))) ∧ W.heap[w.heap.size]? = some (.deferred (some [])))
      (fun pre W v h => ⟨hI _ _ _ h.1 (Kept.setCell W v), (Below.heap_setCell _ _ _ _ (hne _ (by omega))).trans h.2.1, (Below.heap_setCell _ _ _ _ (hne _ (by omega))).trans h.2.2⟩)
      (fun pre W h => ⟨hI _ _ _ h.1 (Kept.drew W), h.2.1, h.2.2⟩)
      ?_ W1 hs hB1 hf1 ⟨hI1, hL1, hK1⟩).mono ?_
    · rintro pre x W ⟨hi, hl, hk⟩ hpre
      have hlt : w.heap.size + 1 < W.heap.size := (Array.getElem?_eq_some_iff.1 hl).1
      have hy := run_yield (P := Try.prog) (args := #[.string x]) hl (by rw [hrec]; exact hps.symm)
      rw [hrec] at hy
      refine ⟨fn, _, assign, body, hy, roundIn_of_wpIn hfn (hassign _ x W _ ⟨_, run_beginRound hl (by rw [hrec]), ?_⟩)⟩
      have hl2 : (W.putObj (w.heap.size + 1) (.loop { rec .ready none with state := .busy })).heap[w.heap.size + 1]? = some (.loop { rec .ready none with state := .busy }) := World.putObj_heap_same hlt
      have hk2 : (W.putObj (w.heap.size + 1) (.loop { rec .ready none with state := .busy })).heap[w.heap.size]? = some (.deferred (some [])) := (World.putObj_heap_other (by omega)).trans hk
      have hc2 : ∀ i, (W.putObj (w.heap.size + 1) (.loop { rec .ready none with state := .busy })).cell? ⟨B, i, none⟩ = W.cell? ⟨B, i, none⟩ := fun i => World.cell?_of_block (w := W) (a := ⟨B, i, none⟩) (World.putObj_heap_other (show B ≠ w.heap.size + 1 by omega))
      have hz2 : ∀ i, (W.putObj (w.heap.size + 1) (.loop { rec .ready none with state := .busy })).frozen? ⟨B, i, none⟩ = W.frozen? ⟨B, i, none⟩ := fun i => World.frozen?_of_block (w := W) (a := ⟨B, i, none⟩) (World.putObj_heap_other (show B ≠ w.heap.size + 1 by omega))
      refine wpIn_mono (hbody _ pre x _ (hI _ _ _ hi (Kept.putObj _ hl rfl (by omega))) hpre) ?_
      have fin : ∀ (jump : Option Code) (W3 : World), KeepsOthers (W.putObj (w.heap.size + 1) (.loop { rec .ready none with state := .busy })) W3 →
          (Instr.endRound (w.heap.size + 1) jump).run Try.prog W3 = .ok (.bool jump.isNone) (W3.putObj (w.heap.size + 1) (.loop (rec (if jump.isNone then .ready else .done) jump))) ∧
          W3.heap[w.heap.size + 1]? = some (.loop { rec .ready none with state := .busy }) ∧
          (W3.putObj (w.heap.size + 1) (.loop (rec (if jump.isNone then .ready else .done) jump))).heap[w.heap.size + 1]? = some (.loop (rec (if jump.isNone then .ready else .done) jump)) ∧
          (W3.putObj (w.heap.size + 1) (.loop (rec (if jump.isNone then .ready else .done) jump))).heap[w.heap.size]? = some (.deferred (some [])) := fun jump W3 hk3 => by
        have hl3 := hk3.same _ _ hl2 rfl
        have := run_endRound (P := Try.prog) jump hl3
        rw [hrec] at this ⊢
        exact ⟨this, by rw [hrec] at hl3; exact hl3, World.putObj_heap_same (Array.getElem?_eq_some_iff.1 hl3).1, (World.putObj_heap_other (by omega)).trans (hk3.same _ _ hk2 rfl)⟩
      rintro e a3 W3 hp
      cases e with
      | normal =>
        obtain ⟨hk3, hcb, hzb, hi3⟩ := hp
        obtain ⟨hr, hl3, hl4, hk4⟩ := fin none W3 hk3
        refine ⟨_, _, hr, .inl ⟨rfl, ⟨hI _ _ _ hi3 (Kept.putObj _ hl3 rfl (by omega)), hl4, hk4⟩, ?_, ?_⟩⟩
        · exact (World.cell?_of_block (w := W3) (a := ⟨B, 0, none⟩) (World.putObj_heap_other (show B ≠ w.heap.size + 1 by omega))).trans (hcb.trans (hc2 0))
        · exact (World.frozen?_of_block (w := W3) (a := ⟨B, 0, none⟩) (World.putObj_heap_other (show B ≠ w.heap.size + 1 by omega))).trans (hzb.trans (hz2 0))
      | ret =>
        obtain ⟨hk3, hi3⟩ := hp
        obtain ⟨hr, hl3, hl4, hk4⟩ := fin (some .ret) W3 hk3
        exact ⟨_, _, hr, .inr ⟨rfl, hIx _ _ _ hi3 (Kept.putObj _ hl3 rfl (by omega)), hl4, hk4⟩⟩
      | exit id => exact hp.elim
      | goto t => exact hp.elim
      | panic ch => exact hp.elim
      | outgrown => exact hp.elim
    · rintro e W2 ⟨⟨v, rfl⟩, (⟨xs, hS, hi, hl, hk⟩ | ⟨pre, hSp, hi, hl, hk⟩)⟩
      · exact ⟨none, _, by have := run_endLoop (P := Try.prog) hl (by rw [hrec]; simp); rw [hrec] at this; exact this, hdone _ xs _ (Nat.le_refl _) hS (hI _ _ _ hi (Kept.putObj _ hl rfl (by omega))) ((World.putObj_heap_other (by omega)).trans hk)⟩
      · exact ⟨some .ret, _, by have := run_endLoop (P := Try.prog) hl (by rw [hrec]; simp); rw [hrec] at this; exact this, hstop _ pre _ (Nat.le_refl _) hSp (hIx _ _ _ hi (Kept.putObj _ hl rfl (by omega))) ((World.putObj_heap_other (by omega)).trans hk)⟩
end Go.Proofs.Ytinabbdecmjcpaa.Script
