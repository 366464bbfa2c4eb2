/- A frame for calls that write into known blocks: all other blocks that were there are as they were. And the append of bytes as a law. No program in sight but for the append's types. -/
import Derived.Laws.AppendOwnNone
import Derived.Test.YtinabbdecmjcpaaGreatDoorG03
namespace Go.Proofs.YtinabbdecmjcpaaGreatDoor
open Go.RowKit

/-- Only the blocks of a list may have changed; new ones may have come. -/
structure Chg (bs : List Nat) (w w' : World) : Prop where
  os : w'.os = w.os
  tape : w'.tape = w.tape
  output : w'.output = w.output
  size : w.heap.size ≤ w'.heap.size
  block : ∀ k, k < w.heap.size → k ∉ bs → w'.heap[k]? = w.heap[k]?

namespace Chg
theorem refl (bs : List Nat) (w : World) : Chg bs w w := ⟨rfl, rfl, rfl, Nat.le_refl _, fun _ _ _ => rfl⟩
theorem trans {bs : List Nat} {a b c : World} (h : Chg bs a b) (k : Chg bs b c) : Chg bs a c :=
  ⟨k.os.trans h.os, k.tape.trans h.tape, k.output.trans h.output, Nat.le_trans h.size k.size, fun i hi hb => (k.block i (Nat.lt_of_lt_of_le hi h.size) hb).trans (h.block i hi hb)⟩
theorem mono {bs cs : List Nat} {a b : World} (h : Chg bs a b) (hs : ∀ x ∈ bs, x ∈ cs) : Chg cs a b :=
  ⟨h.os, h.tape, h.output, h.size, fun i hi hb => h.block i hi fun x => hb (hs i x)⟩
theorem of_below {bs : List Nat} {a b : World} (h : Below a.heap.size a b) : Chg bs a b :=
  ⟨h.os, h.tape, h.output, h.size, fun i hi _ => h.block i hi⟩
theorem drew {bs : List Nat} {a b : World} (h : Chg bs a b) : Chg bs a b.drew := ⟨h.os, h.tape, h.output, h.size, h.block⟩
theorem undrew {bs : List Nat} {a b : World} (h : Chg bs a.drew b) : Chg bs a b := ⟨h.os, h.tape, h.output, h.size, h.block⟩
theorem alloc {bs : List Nat} {a b : World} (h : Chg bs a b) (o : Obj) : Chg bs a (b.alloc o) :=
  h.trans (of_below ((Below.refl _ _).alloc (Nat.le_refl _) o))
theorem setCell {bs : List Nat} {a b : World} (h : Chg bs a b) {p : Addr} (hp : p.block ∈ bs) (u : Value) : Chg bs a (b.setCell p u) :=
  h.trans ⟨rfl, rfl, rfl, by simp, fun i hi hb => Below.heap_setCell _ _ _ _ (fun e => hb (e ▸ hp))⟩
/-- A store into a block that is new. -/
theorem setNew {bs : List Nat} {a b : World} (h : Chg bs a b) {p : Addr} (hp : a.heap.size ≤ p.block) (u : Value) : Chg bs a (b.setCell p u) :=
  ⟨h.os, h.tape, h.output, by simpa using h.size, fun i hi hb => (Below.heap_setCell _ _ _ _ (by omega)).trans (h.block i hi hb)⟩
/-- What lies below all of the blocks is as it was. -/
theorem below {bs : List Nat} {B : Nat} {a b : World} (h : Chg bs a b) (hB : B ≤ a.heap.size) (hb : ∀ x ∈ bs, B ≤ x) : Below B a b :=
  ⟨h.os, h.tape, h.output, h.size, fun i hi => h.block i (by omega) fun x => by have := hb i x; omega⟩
theorem cell {bs : List Nat} {a b : World} (h : Chg bs a b) {p : Addr} (hp : p.block < a.heap.size) (hb : p.block ∉ bs) : b.cell? p = a.cell? p := World.cell?_of_block (w := a) (h.block p.block hp hb)
theorem frozen {bs : List Nat} {a b : World} (h : Chg bs a b) {p : Addr} (hp : p.block < a.heap.size) (hb : p.block ∉ bs) : b.frozen? p = a.frozen? p := World.frozen?_of_block (w := a) (h.block p.block hp hb)
theorem grown {bs : List Nat} {a b c : World} {row : Option Nat} (h : Chg bs a b) (hg : b.grownBy c row) (hr : ∀ k, row = some k → a.heap.size ≤ k) : Chg bs a c := by
  have hb : Below a.heap.size b c := (Below.refl _ _).grown hg h.size hr
  exact ⟨hb.os.trans h.os, hb.tape.trans h.tape, hb.output.trans h.output, Nat.le_trans h.size hb.size, fun i hi hx => (hb.block i hi).trans (h.block i hi hx)⟩
end Chg
end Go.Proofs.YtinabbdecmjcpaaGreatDoor
