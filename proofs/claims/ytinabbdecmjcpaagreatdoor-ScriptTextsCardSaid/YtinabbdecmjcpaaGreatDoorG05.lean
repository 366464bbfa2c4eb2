/- Contracts of package queue: New, Len, Room, Came, Went, Drop, Push, Peek, Pop, over a ring that holds a list of bytes. Contracts of the law's do and awake of layer 25: a step of a queue, as a step on a list of bytes. The contract of the law's awake of layer 25: it returns true, and changes nothing that was there. Lists of steps (a kind, a number, bytes) that came in: what is known of their memory, and how it is read off the row's premise. -/
import Derived.BigRegion
import Derived.Lib.SlBytesConst
import Derived.Lib.SmallJoins
import Derived.Test.YtinabbdecmjcpaaGreatDoorGChg
namespace Go.Proofs.YtinabbdecmjcpaaGreatDoor.Queue
open Go.RowKit Go.Proofs.YtinabbdecmjcpaaGreatDoor Go.Proofs.YtinabbdecmjcpaaGreatDoor.Plain Go.Proofs.YtinabbdecmjcpaaGreatDoor.Words Go.Proofs.YtinabbdecmjcpaaGreatDoor.Hex
set_option linter.unusedVariables false

/-! ### The ring, plainly -/
/-- The bytes of a ring. -/
def qs (r : Nat → UInt8) (f n : Nat) : List UInt8 := (List.range n).map fun i => r ((f + i) % 64)
/-- The ring behind k bytes that were put. -/
def putR (r : Nat → UInt8) (f n : Nat) (l : List UInt8) : Nat → Nat → UInt8
  | 0 => r
  | k + 1 => fun i => if i = (f + n + k) % 64 then l.getD k 0 else putR r f n l k i

theorem qs_len (r : Nat → UInt8) (f n : Nat) : (qs r f n).length = n := by simp [qs]
theorem qs_succ (r : Nat → UInt8) (f n : Nat) : qs r f (n + 1) = qs r f n ++ [r ((f + n) % 64)] := by simp [qs, List.range_succ]
theorem qs_congr (r r' : Nat → UInt8) (f n : Nat) (h : ∀ i, i < n → r ((f + i) % 64) = r' ((f + i) % 64)) : qs r f n = qs r' f n := by
  unfold qs
  apply List.map_congr_left
  intro i hi
  exact h i (by simpa using hi)
theorem qs_put (r : Nat → UInt8) (f n : Nat) (l : List UInt8) : ∀ k, n + k ≤ 64 → k ≤ l.length → qs (putR r f n l k) f (n + k) = qs r f n ++ l.take k
  | 0, _, _ => by simp [putR]
  | k + 1, h, hl => by
    have ih := qs_put r f n l k (by omega) (by omega)
    rw [← Nat.add_assoc, qs_succ, qs_congr (putR r f n l (k + 1)) (putR r f n l k) f (n + k) (fun i hi => by
      show (if (f + i) % 64 = (f + n + k) % 64 then _ else _) = _
      rw [if_neg (by omega)]), ih]
    have e : putR r f n l (k + 1) ((f + (n + k)) % 64) = l.getD k 0 := by
      show (if (f + (n + k)) % 64 = (f + n + k) % 64 then _ else _) = _
      rw [if_pos (by rw [Nat.add_assoc])]
    rw [e, List.take_succ_eq_append_getElem (by omega : k < l.length), List.append_assoc]
    simp [List.getElem?_eq_getElem (by omega : k < l.length)]
theorem qs_take (r : Nat → UInt8) (f n m : Nat) (h : m ≤ n) : (qs r f n).take m = qs r f m := by
  unfold qs
  rw [← List.map_take, List.take_range, Nat.min_eq_left h]
theorem qs_drop (r : Nat → UInt8) (f n m : Nat) (h : m ≤ n) : (qs r f n).drop m = qs r ((f + m) % 64) (n - m) := by
  apply List.ext_getElem?
  intro i
  by_cases hi : i < n - m
  · rw [List.getElem?_drop]
    simp only [qs, List.getElem?_map, List.getElem?_range (by omega : m + i < n), List.getElem?_range hi, Option.map_some]
    congr 2
    omega
  · rw [List.getElem?_eq_none (by rw [List.length_drop, qs_len]; omega), List.getElem?_eq_none (by rw [qs_len]; omega)]

/-! ### The ring in memory -/
structure QAt (w : World) (b : Nat) (r : Nat → UInt8) (f n : Nat) (came went : Int) : Prop where
  ring : ∀ i, i < 64 → w.cell? ⟨b, i, none⟩ = some (.int .u8 ((r i).toNat : Int))
  first : w.cell? ⟨b, 64, none⟩ = some (.int .i64 (f : Int))
  size : w.cell? ⟨b, 65, none⟩ = some (.int .i64 (n : Int))
  came : w.cell? ⟨b, 66, none⟩ = some (.int .u64 came)
  went : w.cell? ⟨b, 67, none⟩ = some (.int .u64 went)
  free : ∀ o, w.frozen? ⟨b, o, none⟩ = false
  f64 : f < 64
  n64 : n ≤ 64

theorem QAt.lt {w : World} {b : Nat} {r : Nat → UInt8} {f n : Nat} {c g : Int} (h : QAt w b r f n c g) : b < w.heap.size := World.block_lt_of_cell? _ _ h.first
theorem QAt.chg {w w' : World} {b : Nat} {bs : List Nat} {r : Nat → UInt8} {f n : Nat} {c g : Int} (h : QAt w b r f n c g) (hc : Chg bs w w') (hb : b ∉ bs) : QAt w' b r f n c g :=
  ⟨fun i hi => (hc.cell (p := ⟨b, i, none⟩) h.lt hb).trans (h.ring i hi), (hc.cell (p := ⟨b, 64, none⟩) h.lt hb).trans h.first, (hc.cell (p := ⟨b, 65, none⟩) h.lt hb).trans h.size, (hc.cell (p := ⟨b, 66, none⟩) h.lt hb).trans h.came, (hc.cell (p := ⟨b, 67, none⟩) h.lt hb).trans h.went,
   fun o => (hc.frozen (p := ⟨b, o, none⟩) h.lt hb).trans (h.free o), h.f64, h.n64⟩
theorem QAt.drew {w : World} {b : Nat} {r : Nat → UInt8} {f n : Nat} {c g : Int} (h : QAt w b r f n c g) : QAt w.drew b r f n c g := ⟨h.ring, h.first, h.size, h.came, h.went, h.free, h.f64, h.n64⟩
theorem QAt.below {w w' : World} {b : Nat} {r : Nat → UInt8} {f n : Nat} {c g : Int} (h : QAt w b r f n c g) (hb : Below w.heap.size w w') : QAt w' b r f n c g := h.chg (bs := []) (Chg.of_below hb) (by simp)

theorem set_off (W : World) (b i j : Nat) (v : Value) (h : i ≠ j) : (W.setCell ⟨b, i, none⟩ v).cell? ⟨b, j, none⟩ = W.cell? ⟨b, j, none⟩ := World.cell?_setCell_other _ _ _ _ (fun e => h (congrArg Addr.off e))

theorem QAt.put {w : World} {b : Nat} {r : Nat → UInt8} {f n : Nat} {c g : Int} (h : QAt w b r f n c g) (j : Nat) (hj : j < 64) (x : UInt8) : QAt (w.setCell ⟨b, j, none⟩ (.int .u8 (x.toNat : Int))) b (fun i => if i = j then x else r i) f n c g :=
  ⟨fun i hi => by
    by_cases e : i = j
    · subst e
      rw [if_pos rfl, World.cell?_setCell_same _ _ _ (h.ring i hi)]
    · rw [if_neg e, set_off _ _ _ _ _ (fun x => e x.symm)]
      exact h.ring i hi, (set_off _ _ _ _ _ (by omega)).trans h.first, (set_off _ _ _ _ _ (by omega)).trans h.size, (set_off _ _ _ _ _ (by omega)).trans h.came, (set_off _ _ _ _ _ (by omega)).trans h.went, fun o => by simpa using h.free o, h.f64, h.n64⟩
theorem QAt.setFirst {w : World} {b : Nat} {r : Nat → UInt8} {f n : Nat} {c g : Int} (h : QAt w b r f n c g) (f' : Nat) (hf : f' < 64) : QAt (w.setCell ⟨b, 64, none⟩ (.int .i64 (f' : Int))) b r f' n c g :=
  ⟨fun i hi => (set_off _ _ _ _ _ (by omega)).trans (h.ring i hi), World.cell?_setCell_same _ _ _ h.first, (set_off _ _ _ _ _ (by omega)).trans h.size, (set_off _ _ _ _ _ (by omega)).trans h.came, (set_off _ _ _ _ _ (by omega)).trans h.went, fun o => by simpa using h.free o, hf, h.n64⟩
theorem QAt.setSize {w : World} {b : Nat} {r : Nat → UInt8} {f n : Nat} {c g : Int} (h : QAt w b r f n c g) (n' : Nat) (hn : n' ≤ 64) : QAt (w.setCell ⟨b, 65, none⟩ (.int .i64 (n' : Int))) b r f n' c g :=
  ⟨fun i hi => (set_off _ _ _ _ _ (by omega)).trans (h.ring i hi), (set_off _ _ _ _ _ (by omega)).trans h.first, World.cell?_setCell_same _ _ _ h.size, (set_off _ _ _ _ _ (by omega)).trans h.came, (set_off _ _ _ _ _ (by omega)).trans h.went, fun o => by simpa using h.free o, h.f64, hn⟩
theorem QAt.setCame {w : World} {b : Nat} {r : Nat → UInt8} {f n : Nat} {c g : Int} (h : QAt w b r f n c g) (c' : Int) : QAt (w.setCell ⟨b, 66, none⟩ (.int .u64 c')) b r f n c' g :=
  ⟨fun i hi => (set_off _ _ _ _ _ (by omega)).trans (h.ring i hi), (set_off _ _ _ _ _ (by omega)).trans h.first, (set_off _ _ _ _ _ (by omega)).trans h.size, World.cell?_setCell_same _ _ _ h.came, (set_off _ _ _ _ _ (by omega)).trans h.went, fun o => by simpa using h.free o, h.f64, h.n64⟩
theorem QAt.setWent {w : World} {b : Nat} {r : Nat → UInt8} {f n : Nat} {c g : Int} (h : QAt w b r f n c g) (g' : Int) : QAt (w.setCell ⟨b, 67, none⟩ (.int .u64 g')) b r f n c g' :=
  ⟨fun i hi => (set_off _ _ _ _ _ (by omega)).trans (h.ring i hi), (set_off _ _ _ _ _ (by omega)).trans h.first, (set_off _ _ _ _ _ (by omega)).trans h.size, (set_off _ _ _ _ _ (by omega)).trans h.came, World.cell?_setCell_same _ _ _ h.went, fun o => by simpa using h.free o, h.f64, h.n64⟩

/-! ### What only looks -/
/-! ### New, Drop -/
def zeroQ : Array Value := (List.replicate 64 (Value.int .u8 0) ++ [Value.int .i64 0, Value.int .i64 0, Value.int .u64 0, Value.int .u64 0]).toArray
/-! ### Push -/
/-- A slice of bytes that lies outside a block. -/
def Off (v : Value) (b : Nat) : Prop := ∀ g o len cap, v = .slice (some ⟨g, o, none⟩) len cap → 0 < len → g ≠ b

/-! ### Peek, Pop -/
/-- How many are told of n that are asked for. -/
def took (n : Int) (size : Nat) : Nat := min n.toNat size

/-- The cells when k of t bytes have been told. -/
def fills (r : Nat → UInt8) (f k t : Nat) : List Value := (List.range t).map fun j => .int .u8 (if j < k then ((r ((f + j) % 64)).toNat : Int) else 0)
theorem fills_len (r : Nat → UInt8) (f k t : Nat) : (fills r f k t).length = t := by simp [fills]
theorem fills_get (r : Nat → UInt8) (f k t j : Nat) (h : j < t) : (fills r f k t)[j]? = some (.int .u8 (if j < k then ((r ((f + j) % 64)).toNat : Int) else 0)) := by simp [fills, h]
theorem fills_zero (r : Nat → UInt8) (f t : Nat) : fills r f 0 t = List.replicate t (.int .u8 0) := by
  apply List.ext_getElem?
  intro j
  by_cases h : j < t
  · rw [fills_get r f 0 t j h, List.getElem?_replicate, if_pos h]; simp
  · rw [List.getElem?_eq_none (by rw [fills_len]; omega), List.getElem?_eq_none (by simp; omega)]
theorem fills_set (r : Nat → UInt8) (f k t : Nat) : (fills r f k t).set k (.int .u8 ((r ((f + k) % 64)).toNat : Int)) = fills r f (k + 1) t := by
  apply List.ext_getElem?
  intro j
  by_cases hj : j < t
  · rw [fills_get r f (k + 1) t j hj, List.getElem?_set]
    by_cases e : k = j
    · subst e
      rw [if_pos rfl, if_pos (by rw [fills_len]; exact hj), if_pos (by omega)]
    · rw [if_neg e, fills_get r f k t j hj]
      by_cases h : j < k
      · rw [if_pos h, if_pos (by omega)]
      · rw [if_neg h, if_neg (by omega)]
  · rw [List.getElem?_eq_none (by rw [List.length_set, fills_len]; omega), List.getElem?_eq_none (by rw [fills_len]; omega)]
theorem fills_all (r : Nat → UInt8) (f t : Nat) : fills r f t t = (qs r f t).map bv := by
  apply List.ext_getElem?
  intro j
  by_cases hj : j < t
  · rw [fills_get r f t t j hj, if_pos hj]
    simp [qs, hj, bv]
  · rw [List.getElem?_eq_none (by rw [fills_len]; omega), List.getElem?_eq_none (by rw [List.length_map, qs_len]; omega)]
theorem ownsRow_drew {w : World} {B e s : Nat} {v : Value} {n : Nat} {xs : List Value} (h : w.ownsRow B e s v n xs) : w.drew.ownsRow B e s v n xs := h

/-- A row of new memory stays one while old blocks are written. -/
theorem ownsRow_set {w : World} {B e s : Nat} {v : Value} {n : Nat} {xs : List Value} (h : w.ownsRow B e s v n xs) {p : Addr} (hp : p.block < B) (u : Value) : (w.setCell p u).ownsRow B e s v n xs := ownsRow_setCell_below h hp u
theorem ownsRow_set3 {w : World} {b : Nat} {v : Value} {l : List UInt8} {B o1 o2 o3 : Nat} {u1 u2 u3 : Value} (h : Bys w B v l) (hb : b < B) : Bys (((w.setCell ⟨b, o1, none⟩ u1).setCell ⟨b, o2, none⟩ u2).setCell ⟨b, o3, none⟩ u3) B v l :=
  ownsRow_set (ownsRow_set (ownsRow_set h hb u1) hb u2) hb u3
theorem took_low (m : Int) (n : Nat) (h : m < 1) : took m n = 0 := by unfold took; omega
theorem took_le (m : Int) (n : Nat) : took m n ≤ n := by unfold took; omega

end Go.Proofs.YtinabbdecmjcpaaGreatDoor.Queue

namespace Go.Proofs.YtinabbdecmjcpaaGreatDoor.Queue
open Go.RowKit Go.Proofs.YtinabbdecmjcpaaGreatDoor Go.Proofs.YtinabbdecmjcpaaGreatDoor.Plain Go.Proofs.YtinabbdecmjcpaaGreatDoor.Words Go.Proofs.YtinabbdecmjcpaaGreatDoor.Hex
set_option linter.unusedVariables false

/-- A queue that holds a list of bytes. -/
def QIs (w : World) (b : Nat) (q : List UInt8) (c g : Int) : Prop := ∃ r f, QAt w b r f q.length c g ∧ qs r f q.length = q
theorem QIs.len {w : World} {b : Nat} {q : List UInt8} {c g : Int} (h : QIs w b q c g) : q.length ≤ 64 := by obtain ⟨r, f, h, _⟩ := h; exact h.n64
theorem QIs.lt {w : World} {b : Nat} {q : List UInt8} {c g : Int} (h : QIs w b q c g) : b < w.heap.size := by obtain ⟨r, f, h, _⟩ := h; exact h.lt
theorem QIs.chg {w w' : World} {b : Nat} {bs : List Nat} {q : List UInt8} {c g : Int} (h : QIs w b q c g) (hc : Chg bs w w') (hb : b ∉ bs) : QIs w' b q c g := by
  obtain ⟨r, f, h, e⟩ := h; exact ⟨r, f, h.chg hc hb, e⟩
theorem QIs.below {w w' : World} {b : Nat} {q : List UInt8} {c g : Int} (h : QIs w b q c g) (hb : Below w.heap.size w w') : QIs w' b q c g := h.chg (bs := []) (Chg.of_below hb) (by simp)

/-- What a step tells, and leaves. -/
structure Told where
  out : List UInt8
  num : Int
  err : Int
  q : List UInt8
  came : Int
  went : Int

/-- A step. -/
def step (kind n : Int) (l q : List UInt8) (c g : Int) : Told :=
  if kind = 1 then (if 64 < q.length + l.length then ⟨[], 0, 15, q, c, g⟩ else ⟨[], 0, 0, q ++ l, c + l.length, g⟩)
  else if kind = 2 then ⟨q.take (took n q.length), 0, 0, q.drop (took n q.length), c, g + took n q.length⟩
  else if kind = 3 then ⟨q.take (took n q.length), 0, 0, q, c, g⟩
  else if kind = 4 then ⟨[], q.length, 0, [], c, g⟩
  else ⟨[], 0, 0, q, c, g⟩

/-- What the call leaves. -/
def DoPost (b : Nat) (t : Told) (w : World) (e : Ending) (w' : World) : Prop :=
  ∃ v, e = .returned (.tuple #[v, .int .i64 t.num, .int .i64 t.err]) ∧ Bys w' w.heap.size v t.out ∧ QIs w' b t.q t.came t.went ∧ Chg [b] w w'

theorem bys_mono {w : World} {B C : Nat} {v : Value} {l : List UInt8} (h : B ≤ C) (hs : Bys w C v l) : Bys w B v l := by
  obtain ⟨h1, h2⟩ := hs
  refine ⟨h1, ?_⟩
  rcases h2 with h2 | ⟨g, cap, cur, a, b, c⟩
  · exact .inl h2
  · exact .inr ⟨g, cap, cur, a, by omega, c⟩
theorem chg_alloc {bs : List Nat} {w w' : World} {o : Obj} (h : Chg bs (w.alloc o) w') : Chg bs w w' := ((Chg.refl bs w).alloc o).trans h

end Go.Proofs.YtinabbdecmjcpaaGreatDoor.Queue

namespace Go.Proofs.YtinabbdecmjcpaaGreatDoor.Queue
open Go.RowKit Go.Proofs.YtinabbdecmjcpaaGreatDoor Go.Proofs.YtinabbdecmjcpaaGreatDoor.Plain Go.Proofs.YtinabbdecmjcpaaGreatDoor.Words Go.Proofs.YtinabbdecmjcpaaGreatDoor.Hex
set_option linter.unusedVariables false

end Go.Proofs.YtinabbdecmjcpaaGreatDoor.Queue

namespace Go.Proofs.YtinabbdecmjcpaaGreatDoor.Queue
open Go.RowKit Go.Proofs.YtinabbdecmjcpaaGreatDoor Go.Proofs.YtinabbdecmjcpaaGreatDoor.Plain Go.Proofs.YtinabbdecmjcpaaGreatDoor.Words Go.Proofs.YtinabbdecmjcpaaGreatDoor.Hex
open Go.ChangeShapes Go.WideShapes Go.ChangeAt Go.Deep
set_option linter.unusedVariables false

/-- A slice of bytes, with what is known of its room. -/
def CRow (w : World) (v : Value) (l : List UInt8) : Prop :=
  (l = [] ∧ ∃ a cap, v = .slice a 0 cap ∧ (a = none → cap = 0) ∧ cap ≤ maxLen) ∨
  (∃ g o cap, v = .slice (some ⟨g, o, none⟩) l.length cap ∧ 0 < l.length ∧ l.length ≤ cap ∧ cap ≤ maxLen ∧ g < w.heap.size ∧ ∀ i (h : i < l.length), w.cell? ⟨g, o + i, none⟩ = some (bv l[i]))
theorem CRow.row {w : World} {v : Value} {l : List UInt8} (h : CRow w v l) : BRow w v l := by
  rcases h with ⟨rfl, a, cap, rfl, _⟩ | ⟨g, o, cap, rfl, _, _, _, hg, hc⟩
  · exact .inl ⟨rfl, a, cap, rfl⟩
  · exact .inr ⟨g, o, cap, rfl, hg, hc⟩
theorem crow_chg {w w' : World} {v : Value} {l : List UInt8} {bs : List Nat} (h : CRow w v l) (hc : Chg bs w w') (ho : ∀ b ∈ bs, Off v b) : CRow w' v l := by
  rcases h with h | ⟨g, o, cap, rfl, h0, h1, h2, hg, hcl⟩
  · exact .inl h
  · exact .inr ⟨g, o, cap, rfl, h0, h1, h2, Nat.lt_of_lt_of_le hg hc.size, fun i hi => (hc.cell (p := ⟨g, o + i, none⟩) hg (fun hb => ho g hb g o _ cap rfl h0 rfl)).trans (hcl i hi)⟩
theorem crow_below {w w' : World} {v : Value} {l : List UInt8} (h : CRow w v l) (hb : Below w.heap.size w w') : CRow w' v l := crow_chg h (Chg.of_below (bs := []) hb) (by simp)
theorem brow_chg {w w' : World} {v : Value} {l : List UInt8} {bs : List Nat} (h : BRow w v l) (hc : Chg bs w w') (ho : ∀ b ∈ bs, Off v b) : BRow w' v l := by
  rcases h with h | ⟨g, o, cap, rfl, hg, hcl⟩
  · exact .inl h
  · exact .inr ⟨g, o, cap, rfl, Nat.lt_of_lt_of_le hg hc.size, fun i hi => (hc.cell (p := ⟨g, o + i, none⟩) hg (fun hb => ho g hb g o _ cap rfl (by omega) rfl)).trans (hcl i hi)⟩
theorem bys_crow {w : World} {B : Nat} {v : Value} {l : List UInt8} (h : Bys w B v l) : CRow w v l := by
  have h' := h
  obtain ⟨h1, h2⟩ := h
  rcases h2 with ⟨rfl, h0⟩ | ⟨g, cap, cur, rfl, hB, hc, hn, hcap, hcz, ht⟩
  · exact .inl ⟨List.length_eq_zero_iff.1 h0, none, 0, rfl, fun _ => rfl, Nat.zero_le _⟩
  · by_cases h0 : l.length = 0
    · exact .inl ⟨List.length_eq_zero_iff.1 h0, some ⟨g, 0, none⟩, cap, by rw [h0], (fun h => by cases h), hcap⟩
    · refine .inr ⟨g, 0, cap, rfl, by omega, hn, hcap, lt_of_block hc, fun i hi => ?_⟩
      have := World.ownsRow.cellAt h' i (by simpa using hi)
      rw [Nat.zero_add]
      rw [this]
      simp [hi]
theorem crow_form {w : World} {v : Value} {l : List UInt8} (h : CRow w v l) : ∃ a cap, v = .slice a l.length cap := brow_form h.row
/-- Where a row lies. -/
theorem bys_off {w : World} {B b : Nat} {v : Value} {l : List UInt8} (h : Bys w B v l) (hb : b < B) : Off v b := by
  intro g o len cap e hl hg
  rcases h.2 with ⟨rfl, _⟩ | ⟨g', cap', cur, rfl, hB, _⟩
  · cases e
  · cases e; omega

/-- One step of a list that lies at an address. -/
structure StepAt (w : World) (g o i : Nat) (k n : Int) (v : Value) (l : List UInt8) : Prop where
  c0 : w.cell? ⟨g, o + i * 3, none⟩ = some (.int .i64 k)
  c1 : w.cell? ⟨g, o + i * 3 + 1, none⟩ = some (.int .i64 n)
  c2 : w.cell? ⟨g, o + i * 3 + 2, none⟩ = some v
  k0 : -9223372036854775808 ≤ k
  k1 : k ≤ 9223372036854775807
  n0 : -9223372036854775808 ≤ n
  n1 : n ≤ 9223372036854775807
  row : CRow w v l
  len : l.length ≤ maxLen
  off : ∀ b, w.heap.size ≤ b → Off v b

/-- A list of steps. -/
def Steps (w : World) (v : Value) (len : Nat) : Prop :=
  (len = 0 ∧ ∃ a cap, v = .slice a 0 cap) ∨ (∃ g o cap, v = .slice (some ⟨g, o, none⟩) len cap ∧ 0 < len ∧ len ≤ maxLen ∧ g < w.heap.size ∧ ∀ i, i < len → ∃ k n dv l, StepAt w g o i k n dv l)

theorem off_old {w : World} {v : Value} {l : List UInt8} (h : CRow w v l) (b : Nat) (hb : w.heap.size ≤ b) : Off v b := by
  intro g o len cap e hl
  rcases h with ⟨_, a, cap', rfl, _⟩ | ⟨g', o', cap', rfl, _, _, _, hg, _⟩
  · cases e; omega
  · cases e; omega

theorem list3 {α : Type} {l : List α} (h : l.length = 3) : ∃ a b c, l = [a, b, c] := by
  match l, h with
  | [a, b, c], _ => exact ⟨a, b, c, rfl⟩

section
variable {H : Type} {enc : TypeId × Value → H} {W : World} {base : Nat} {spare : Nat → Bool} {held : Bool}
/-- A slice of bytes, read. -/
theorem open_bytes {fuel : Nat} {v : Value} {x : DataW H × List MemPlace} (h : DataW.trod enc Tryz.prog W base spare held fuel 42 [v] = some x) : ∃ l : List UInt8, CRow W v l ∧ l.length ≤ maxLen := by
  rcases open_ints Tryz.underlying42 Tryz.underlying5 (by kernel_rfl) h with ⟨hcs, _⟩ | ⟨a, len, cap, zs, hcs, _, hl, hm, hz, _, hcell, hwf⟩
  · cases hcs
    exact ⟨[], .inl ⟨rfl, none, 0, rfl, fun _ => rfl, Nat.zero_le _⟩, Nat.zero_le _⟩
  · cases hcs
    by_cases h0 : len = 0
    · subst h0
      exact ⟨[], .inl ⟨rfl, some a, cap, rfl, (fun h => by cases h), hm⟩, Nat.zero_le _⟩
    · obtain ⟨b, off, spot⟩ := a
      have hlz : len ≤ zs.length := by
        have : len ≤ (if spare b then cap else len) := by split <;> omega
        rw [hz]; exact this
      have hc0 := hcell 0 (by omega)
      have hspot : spot = none := by simpa [Addr.add] using World.cell?_spot hc0
      subst hspot
      refine ⟨(zs.take len).map fun z => UInt8.ofNat z.toNat, .inr ⟨b, off, cap, by simp; omega, by simp; omega, by simp; omega, hm, by have := World.block_lt_of_cell? _ _ hc0; simpa [Addr.add] using this, fun i hi => ?_⟩, by simp; omega⟩
      have hi' : i < len := by simp at hi; omega
      have hiz : i < zs.length := by omega
      have h1 := hcell i hiz
      rw [addr_add] at h1
      rw [h1]
      have hmem : zs.getD i 0 ∈ zs := by rw [List.getD_eq_getElem?_getD, List.getElem?_eq_getElem hiz]; exact List.getElem_mem hiz
      obtain ⟨q0, q1⟩ := bounds_u8 (hwf _ hmem)
      have e : zs.getD i 0 = zs[i] := by rw [List.getD_eq_getElem?_getD, List.getElem?_eq_getElem hiz]; rfl
      rw [e] at q0 q1 ⊢
      simp [bv, UInt8.toNat_ofNat']
      omega

theorem open_steps {T E : TypeId} {f0 f1 f2 : Field} (hT : Tryz.prog.underlying T = some (.slice E)) (hE : Tryz.prog.underlying E = some (.struct #[f0, f1, f2])) (hC : Tryz.prog.cellsOf E = 3)
    (t0 : f0.type = 3) (t1 : f1.type = 3) (t2 : f2.type = 42) (o0 : f0.offset = 0) (o1 : f1.offset = 1) (o2 : f2.offset = 2)
    {v : Value} {d : DataW H} {p : List MemPlace} (hv : ∃ a len cap, v = .slice a len cap) (h : DataW.Trod enc Tryz.prog W base spare held T v d p) : ∃ len, Steps W v len ∧ len ≤ maxLen ∧ ∃ a cap, v = .slice a len cap := by
  obtain ⟨a0, len0, cap0, rfl⟩ := hv
  obtain ⟨fuel, hf⟩ := h
  rcases open_slice hT hf with ⟨hcs, _⟩ | ⟨a, len, cap, m, n, D, Pl, hcs, _, hl, hm, hmm, _, hel⟩
  · simp [Value.cells] at hcs
    obtain ⟨rfl, rfl, rfl⟩ := hcs
    exact ⟨0, .inl ⟨rfl, _, _, rfl⟩, Nat.zero_le _, _, _, rfl⟩
  · simp [Value.cells] at hcs
    obtain ⟨rfl, rfl, rfl⟩ := hcs
    have hlm : len0 ≤ m := by rw [hmm]; split <;> omega
    refine ⟨len0, ?_, by omega, _, _, rfl⟩
    by_cases h0 : len0 = 0
    · exact .inl ⟨h0, _, _, by rw [h0]⟩
    obtain ⟨g, o, spot⟩ := a
    have key : ∀ i, i < len0 → ∃ k n dv l, (W.cell? ((⟨g, o, spot⟩ : Addr).add (i * 3)) = some (.int .i64 k)) ∧ (W.cell? (((⟨g, o, spot⟩ : Addr).add (i * 3)).add 1) = some (.int .i64 n)) ∧ (W.cell? (((⟨g, o, spot⟩ : Addr).add (i * 3)).add 2) = some dv) ∧ (Lit.int .i64 k).wf = true ∧ (Lit.int .i64 n).wf = true ∧ CRow W dv l ∧ l.length ≤ maxLen := by
      intro i hi
      obtain ⟨cs', hc, ht'⟩ := hel i (by omega)
      rw [hC] at hc
      obtain ⟨xs, n', _, _, hlen, hxl, hf'⟩ := DataW.trod_struct hE ht'
      obtain ⟨_, hcl, hat⟩ := World.cells?_some hc
      have g0 := hf' 0 f0 rfl
      have g1 := hf' 1 f1 rfl
      have g2 := hf' 2 f2 rfl
      rw [t0, o0, show Tryz.prog.cellsOf 3 = 1 by kernel_rfl] at g0
      rw [t1, o1, show Tryz.prog.cellsOf 3 = 1 by kernel_rfl] at g1
      rw [t2, o2, show Tryz.prog.cellsOf 42 = 1 by kernel_rfl] at g2
      obtain ⟨c0, c1, c2, rfl⟩ := list3 hcl
      obtain ⟨x0, x1, x2, rfl⟩ := list3 hxl
      · obtain ⟨k, e0, _, wk⟩ := DataW.trod_int Tryz.underlying3 (show DataW.trod enc Tryz.prog W base spare held n' 3 [c0] = some x0 from g0)
        obtain ⟨nn, e1, _, wn⟩ := DataW.trod_int Tryz.underlying3 (show DataW.trod enc Tryz.prog W base spare held n' 3 [c1] = some x1 from g1)
        obtain ⟨l, hrow, hlen'⟩ := open_bytes (show DataW.trod enc Tryz.prog W base spare held n' 42 [c2] = some x2 from g2)
        simp at e0 e1
        subst e0 e1
        exact ⟨k, nn, c2, l, by simpa [Addr.add] using hat 0 (by omega), hat 1 (by omega), hat 2 (by omega), wk, wn, hrow, hlen'⟩
    obtain ⟨k, n, dv, l, a0, _⟩ := key 0 (by omega)
    have hspot : spot = none := by simpa [Addr.add] using World.cell?_spot a0
    subst hspot
    refine .inr ⟨g, o, cap0, rfl, by omega, by omega, by have := World.block_lt_of_cell? _ _ a0; simpa [Addr.add] using this, fun i hi => ?_⟩
    obtain ⟨k, n, dv, l, b0, b1, b2, wk, wn, hrow, hl'⟩ := key i hi
    rw [addr_add] at b0 b1 b2
    rw [addr_add] at b1 b2
    obtain ⟨p0, p1⟩ := bounds_i64 wk
    obtain ⟨q0, q1⟩ := bounds_i64 wn
    exact ⟨k, n, dv, l, b0, b1, b2, p0, p1, q0, q1, hrow, hl', fun b hb => off_old hrow b hb⟩
end
end Go.Proofs.YtinabbdecmjcpaaGreatDoor.Queue
