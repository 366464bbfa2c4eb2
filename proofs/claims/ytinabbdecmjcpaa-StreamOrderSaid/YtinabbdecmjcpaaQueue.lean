/- Contracts of package queue: New, Len, Room, Came, Went, Drop, Push, Peek, Pop, over a ring that holds a list of bytes. -/
import Derived.Test.YtinabbdecmjcpaaChg
import Derived.BigRegion
namespace Go.Proofs.Ytinabbdecmjcpaa.Queue
open Go.RowKit Go.Proofs.Ytinabbdecmjcpaa Go.Proofs.Ytinabbdecmjcpaa.Plain Go.Proofs.Ytinabbdecmjcpaa.Words Go.Proofs.Ytinabbdecmjcpaa.Hex
set_option linter.unusedVariables false

/-! ### The ring, plainly -/
/-- The bytes of a ring. -/
def qs (r : Nat → UInt8) (f n : Nat) : List UInt8 := (List.range n).map fun i => r ((f + i) % 64)
/-- The ring behind k bytes that were put. -/
def putR (r : Nat → UInt8) (f n : Nat) (l : List UInt8) : Nat → Nat → UInt8
  | 0 => r
  | k + 1 => fun i => if i = (f + n + k) % 64 then l.getD k 0 else putR r f n l k i

theorem qs_len (r : Nat → UInt8) (f n : Nat) : (qs r f n).length = n := by simp [qs]
theorem qs_succ (r : Nat → UInt8) (f n : Nat) : qs r f (n + 1) = qs r f n ++ [r ((f + n) % 64)] := by simp [qs, List.range_succ]
theorem qs_congr (r r' : Nat → UInt8) (f n : Nat) (h : ∀ i, i < n → r ((f + i) % 64) = r' ((f + i) % 64)) : qs r f n = qs r' f n := by
  unfold qs
  apply List.map_congr_left
  intro i hi
  exact h i (by simpa using hi)
theorem qs_put (r : Nat → UInt8) (f n : Nat) (l : List UInt8) : ∀ k, n + k ≤ 64 → k ≤ l.length → qs (putR r f n l k) f (n + k) = qs r f n ++ l.take k
  | 0, _, _ => by simp [putR]
  | k + 1, h, hl => by
    have ih := qs_put r f n l k (by omega) (by omega)
    rw [← Nat.add_assoc, qs_succ, qs_congr (putR r f n l (k + 1)) (putR r f n l k) f (n + k) (fun i hi => by
      show (if (f + i) % 64 = (f + n + k) % 64 then _ else _) = _
      rw [if_neg (by omega)]), ih]
    have e : putR r f n l (k + 1) ((f + (n + k)) % 64) = l.getD k 0 := by
      show (if (f + (n + k)) % 64 = (f + n + k) % 64 then _ else _) = _
      rw [if_pos (by rw [Nat.add_assoc])]
    rw [e, List.take_succ_eq_append_getElem (by omega : k < l.length), List.append_assoc]
    simp [List.getElem?_eq_getElem (by omega : k < l.length)]
theorem qs_take (r : Nat → UInt8) (f n m : Nat) (h : m ≤ n) : (qs r f n).take m = qs r f m := by
  unfold qs
  rw [← List.map_take, List.take_range, Nat.min_eq_left h]
theorem qs_drop (r : Nat → UInt8) (f n m : Nat) (h : m ≤ n) : (qs r f n).drop m = qs r ((f + m) % 64) (n - m) := by
  apply List.ext_getElem?
  intro i
  by_cases hi : i < n - m
  · rw [List.getElem?_drop]
    simp only [qs, List.getElem?_map, List.getElem?_range (by omega : m + i < n), List.getElem?_range hi, Option.map_some]
    congr 2
    omega
  · rw [List.getElem?_eq_none (by rw [List.length_drop, qs_len]; omega), List.getElem?_eq_none (by rw [qs_len]; omega)]

/-! ### The ring in memory -/
structure QAt (w : World) (b : Nat) (r : Nat → UInt8) (f n : Nat) (came went : Int) : Prop where
  ring : ∀ i, i < 64 → w.cell? ⟨b, i, none⟩ = some (.int .u8 ((r i).toNat : Int))
  first : w.cell? ⟨b, 64, none⟩ = some (.int .i64 (f : Int))
  size : w.cell? ⟨b, 65, none⟩ = some (.int .i64 (n : Int))
  came : w.cell? ⟨b, 66, none⟩ = some (.int .u64 came)
  went : w.cell? ⟨b, 67, none⟩ = some (.int .u64 went)
  free : ∀ o, w.frozen? ⟨b, o, none⟩ = false
  f64 : f < 64
  n64 : n ≤ 64

theorem QAt.lt {w : World} {b : Nat} {r : Nat → UInt8} {f n : Nat} {c g : Int} (h : QAt w b r f n c g) : b < w.heap.size := World.block_lt_of_cell? _ _ h.first
theorem QAt.chg {w w' : World} {b : Nat} {bs : List Nat} {r : Nat → UInt8} {f n : Nat} {c g : Int} (h : QAt w b r f n c g) (hc : Chg bs w w') (hb : b ∉ bs) : QAt w' b r f n c g :=
  ⟨fun i hi => (hc.cell (p := ⟨b, i, none⟩) h.lt hb).trans (h.ring i hi), (hc.cell (p := ⟨b, 64, none⟩) h.lt hb).trans h.first, (hc.cell (p := ⟨b, 65, none⟩) h.lt hb).trans h.size, (hc.cell (p := ⟨b, 66, none⟩) h.lt hb).trans h.came, (hc.cell (p := ⟨b, 67, none⟩) h.lt hb).trans h.went,
   fun o => (hc.frozen (p := ⟨b, o, none⟩) h.lt hb).trans (h.free o), h.f64, h.n64⟩
theorem QAt.drew {w : World} {b : Nat} {r : Nat → UInt8} {f n : Nat} {c g : Int} (h : QAt w b r f n c g) : QAt w.drew b r f n c g := ⟨h.ring, h.first, h.size, h.came, h.went, h.free, h.f64, h.n64⟩
theorem QAt.below {w w' : World} {b : Nat} {r : Nat → UInt8} {f n : Nat} {c g : Int} (h : QAt w b r f n c g) (hb : Below w.heap.size w w') : QAt w' b r f n c g := h.chg (bs := []) (Chg.of_below hb) (by simp)

theorem set_off (W : World) (b i j : Nat) (v : Value) (h : i ≠ j) : (W.setCell ⟨b, i, none⟩ v).cell? ⟨b, j, none⟩ = W.cell? ⟨b, j, none⟩ := World.cell?_setCell_other _ _ _ _ (fun e => h (congrArg Addr.off e))

theorem QAt.put {w : World} {b : Nat} {r : Nat → UInt8} {f n : Nat} {c g : Int} (h : QAt w b r f n c g) (j : Nat) (hj : j < 64) (x : UInt8) : QAt (w.setCell ⟨b, j, none⟩ (.int .u8 (x.toNat : Int))) b (fun i => if i = j then x else r i) f n c g :=
  ⟨fun i hi => by
    by_cases e : i = j
    · subst e
      rw [if_pos rfl, World.cell?_setCell_same _ _ _ (h.ring i hi)]
    · rw [if_neg e, set_off _ _ _ _ _ (fun x => e x.symm)]
      exact h.ring i hi, (set_off _ _ _ _ _ (by omega)).trans h.first, (set_off _ _ _ _ _ (by omega)).trans h.size, (set_off _ _ _ _ _ (by omega)).trans h.came, (set_off _ _ _ _ _ (by omega)).trans h.went, fun o => by simpa using h.free o, h.f64, h.n64⟩
theorem QAt.setFirst {w : World} {b : Nat} {r : Nat → UInt8} {f n : Nat} {c g : Int} (h : QAt w b r f n c g) (f' : Nat) (hf : f' < 64) : QAt (w.setCell ⟨b, 64, none⟩ (.int .i64 (f' : Int))) b r f' n c g :=
  ⟨fun i hi => (set_off _ _ _ _ _ (by omega)).trans (h.ring i hi), World.cell?_setCell_same _ _ _ h.first, (set_off _ _ _ _ _ (by omega)).trans h.size, (set_off _ _ _ _ _ (by omega)).trans h.came, (set_off _ _ _ _ _ (by omega)).trans h.went, fun o => by simpa using h.free o, hf, h.n64⟩
theorem QAt.setSize {w : World} {b : Nat} {r : Nat → UInt8} {f n : Nat} {c g : Int} (h : QAt w b r f n c g) (n' : Nat) (hn : n' ≤ 64) : QAt (w.setCell ⟨b, 65, none⟩ (.int .i64 (n' : Int))) b r f n' c g :=
  ⟨fun i hi => (set_off _ _ _ _ _ (by omega)).trans (h.ring i hi), (set_off _ _ _ _ _ (by omega)).trans h.first, World.cell?_setCell_same _ _ _ h.size, (set_off _ _ _ _ _ (by omega)).trans h.came, (set_off _ _ _ _ _ (by omega)).trans h.went, fun o => by simpa using h.free o, h.f64, hn⟩
theorem QAt.setCame {w : World} {b : Nat} {r : Nat → UInt8} {f n : Nat} {c g : Int} (h : QAt w b r f n c g) (c' : Int) : QAt (w.setCell ⟨b, 66, none⟩ (.int .u64 c')) b r f n c' g :=
  ⟨fun i hi => (set_off _ _ _ _ _ (by omega)).trans (h.ring i hi), (set_off _ _ _ _ _ (by omega)).trans h.first, (set_off _ _ _ _ _ (by omega)).trans h.size, World.cell?_setCell_same _ _ _ h.came, (set_off _ _ _ _ _ (by omega)).trans h.went, fun o => by simpa using h.free o, h.f64, h.n64⟩
theorem QAt.setWent {w : World} {b : Nat} {r : Nat → UInt8} {f n : Nat} {c g : Int} (h : QAt w b r f n c g) (g' : Int) : QAt (w.setCell ⟨b, 67, none⟩ (.int .u64 g')) b r f n c g' :=
  ⟨fun i hi => (set_off _ _ _ _ _ (by omega)).trans (h.ring i hi), (set_off _ _ _ _ _ (by omega)).trans h.first, (set_off _ _ _ _ _ (by omega)).trans h.size, (set_off _ _ _ _ _ (by omega)).trans h.came, World.cell?_setCell_same _ _ _ h.went, fun o => by simpa using h.free o, h.f64, h.n64⟩

/-! ### What only looks -/
theorem len_any {w : World} {b : Nat} {r : Nat → UInt8} {f n : Nat} {c g : Int} (h : QAt w b r f n c g) : Calls Try.prog 25 #[.pointer (some ⟨b, 0, none⟩)] w fun e w' => e = .returned (.int .i64 (n : Int)) ∧ w = w' := by
  have h1 := h.size
  clear h
  go_enter Try.func25, Try.ntmps25
  go_wp2
  go_ret
  exact ⟨rfl, rfl⟩
theorem room_any {w : World} {b : Nat} {r : Nat → UInt8} {f n : Nat} {c g : Int} (h : QAt w b r f n c g) : Calls Try.prog 26 #[.pointer (some ⟨b, 0, none⟩)] w fun e w' => e = .returned (.int .i64 (64 - (n : Int))) ∧ w = w' := by
  have h1 := h.size
  have h2 := h.n64
  clear h
  go_enter Try.func26, Try.ntmps26
  go_wp2
  go_ret
  exact ⟨rfl, rfl⟩
theorem came_any {w : World} {b : Nat} {r : Nat → UInt8} {f n : Nat} {c g : Int} (h : QAt w b r f n c g) : Calls Try.prog 27 #[.pointer (some ⟨b, 0, none⟩)] w fun e w' => e = .returned (.int .u64 c) ∧ w = w' := by
  have h1 := h.came
  clear h
  go_enter Try.func27, Try.ntmps27
  go_wp2
  go_ret
  exact ⟨rfl, rfl⟩
theorem went_any {w : World} {b : Nat} {r : Nat → UInt8} {f n : Nat} {c g : Int} (h : QAt w b r f n c g) : Calls Try.prog 28 #[.pointer (some ⟨b, 0, none⟩)] w fun e w' => e = .returned (.int .u64 g) ∧ w = w' := by
  have h1 := h.went
  clear h
  go_enter Try.func28, Try.ntmps28
  go_wp2
  go_ret
  exact ⟨rfl, rfl⟩

/-! ### New, Drop -/
def zeroQ : Array Value := (List.replicate 64 (Value.int .u8 0) ++ [Value.int .i64 0, Value.int .i64 0, Value.int .u64 0, Value.int .u64 0]).toArray
theorem zero88 : Try.zeroCells88 = zeroQ := by kernel_rfl
theorem qat_zero (w : World) : QAt (w.alloc (.cells zeroQ 88)) w.heap.size (fun _ => 0) 0 0 0 0 :=
  ⟨fun i hi => by
    rw [World.cell?_alloc_at _ _ _ _ rfl]
    show (List.toArray _)[i]? = _
    rw [List.getElem?_toArray, List.getElem?_append_left (by simpa using hi), List.getElem?_replicate, if_pos hi]
    rfl, World.cell?_alloc_at _ _ _ _ rfl, World.cell?_alloc_at _ _ _ _ rfl, World.cell?_alloc_at _ _ _ _ rfl, World.cell?_alloc_at _ _ _ _ rfl, fun o => World.frozen?_alloc_at _ _ _ _ rfl, by omega, by omega⟩
theorem new_any (w : World) : Calls Try.prog 22 #[] w fun e w' => e = .returned (.pointer (some ⟨w.heap.size, 0, none⟩)) ∧ QAt w' w.heap.size (fun _ => 0) 0 0 0 0 ∧ Below w.heap.size w w' := by
  go_enter Try.func22, Try.ntmps22
  go_wp2
  go_ret
  rw [zero88]
  exact ⟨rfl, qat_zero w, (Below.refl _ _).alloc (Nat.le_refl _) _⟩

theorem drop_any {w : World} {b : Nat} {r : Nat → UInt8} {f n : Nat} {c g : Int} (h : QAt w b r f n c g) : Calls Try.prog 55 #[.pointer (some ⟨b, 0, none⟩)] w fun e w' => e = .returned (.int .i64 (n : Int)) ∧ QAt w' b r 0 0 c g ∧ Chg [b] w w' := by
  have h1 := h.size
  have h2 := h.first
  have h3 := h.free 64
  have h4 := h.free 65
  have h5 := set_off
  have H := Lib.hid h
  clear h
  go_enter Try.func55, Try.ntmps55
  go_wp2
  go_ret
  exact ⟨rfl, (H.out.setFirst 0 (by omega)).setSize 0 (by omega), ((Chg.refl _ _).setCell (by simp) _).setCell (by simp) _⟩

/-! ### Push -/
theorem push_full {w : World} {b : Nat} {r : Nat → UInt8} {f n : Nat} {c g : Int} (h : QAt w b r f n c g) (a : Option Addr) (len cap : Nat) (hf : 64 < n + len) : Calls Try.prog 52 #[.pointer (some ⟨b, 0, none⟩), .slice a len cap] w fun e w' => e = .returned (.int .i64 15) ∧ w = w' := by
  have H := Lib.hid h
  have h2 := h.n64
  clear h
  go_enter Try.func52, Try.ntmps52
  go_wp2_with (go_at_call 26; refine (room_any H.out).mono ?_; rintro e w' ⟨rfl, rfl⟩)
  go_ret
  exact ⟨rfl, rfl⟩

set_option maxRecDepth 100000 in
set_option maxHeartbeats 1000000 in
theorem push_more {w : World} {b : Nat} {r : Nat → UInt8} {f n : Nat} {c g : Int} (h : QAt w b r f n c g) (l : List UInt8) (gl ol cap : Nat) (hf : n + l.length ≤ 64) (hne : gl ≠ b) (hg : gl < w.heap.size) (hl : ∀ i (h : i < l.length), w.cell? ⟨gl, ol + i, none⟩ = some (bv l[i])) (hc0 : 0 ≤ c) (hc1 : c ≤ 1000000000) :
    Calls Try.prog 52 #[.pointer (some ⟨b, 0, none⟩), .slice (some ⟨gl, ol, none⟩) l.length cap] w fun e w' => e = .returned (.int .i64 0) ∧ QAt w' b (putR r f n l l.length) f (n + l.length) (c + l.length) g ∧ Chg [b] w w' := by
  have H := Lib.hid h
  have HL := Lib.hid hl
  have h2 := h.n64
  have h3 := h.f64
  clear h hl
  go_enter Try.func52, Try.ntmps52
  go_wp2_with (go_at_call 26; refine (room_any H.out).mono ?_; rintro e w' ⟨rfl, rfl⟩)
  go_loopw [16] (fun i wr => ∃ k : Nat, k ≤ l.length ∧ i = .int .i64 k ∧ QAt wr b (putR r f n l k) f n c g ∧ Chg [b] w wr) (fun i _ => l.length - (intOf i).toNat)
  case atStart => exact ⟨0, by omega, rfl, H.out, Chg.refl _ _⟩
  case round =>
    obtain ⟨k, hk, rfl, hq, hch⟩ := hrel
    have HQ := Lib.hid hq
    have q1 := hq.first
    have q2 := hq.size
    by_cases hlt : k < l.length
    · have hx : wr.cell? ⟨gl, ol + k, none⟩ = some (.int .u8 ((l[k]).toNat : Int)) := (hch.cell (p := ⟨gl, ol + k, none⟩) hg (by simpa using hne)).trans (HL.out k hlt)
      have hr := hq.ring ((f + n + k) % 64) (by omega)
      have hz := hq.free ((f + n + k) % 64)
      have hp := hq.put ((f + n + k) % 64) (by omega) l[k]
      have hp2 : QAt (wr.setCell ⟨b, (f + n + k) % 64, none⟩ (.int .u8 ((l[k]).toNat : Int))) b (putR r f n l (k + 1)) f n c g := by
        have e : (fun i => if i = (f + n + k) % 64 then l[k] else putR r f n l k i) = putR r f n l (k + 1) := by
          funext i
          show _ = (if i = (f + n + k) % 64 then l.getD k 0 else _)
          simp [hlt]
        rw [← e]
        exact hp
      have HP := Lib.hid hp2
      clear hp hp2 hq
      generalize (l[k]).toNat = x at *
      generalize ((putR r f n l k ((f + n + k) % 64)).toNat) = y at *
      go_wp2_with fail
      go_region
      go_wp2
      go_roundw
      case rel => exact ⟨k + 1, by omega, by go_num, HP.out.drew, (hch.setCell (p := ⟨b, (f + n + k) % 64, none⟩) (by simp) _).drew⟩
      case measure => simp [intOf]; omega
    · obtain rfl : k = l.length := by omega
      have q3 := hq.came
      have q4 := hq.free 65
      have q5 := hq.free 66
      have q6 := set_off
      clear hq
      go_wp2
      go_ret
      refine ⟨rfl, ?_, (hch.setCell (by simp) _).setCell (by simp) _⟩
      have := (HQ.out.setSize (n + l.length) hf).setCame (c + l.length)
      simpa using this

/-- A slice of bytes that lies outside a block. -/
def Off (v : Value) (b : Nat) : Prop := ∀ g o len cap, v = .slice (some ⟨g, o, none⟩) len cap → 0 < len → g ≠ b

/-- Push, where there is room. -/
theorem push_ok {w : World} {b : Nat} {r : Nat → UInt8} {f n : Nat} {c g : Int} (h : QAt w b r f n c g) (l : List UInt8) (v : Value) (hv : BRow w v l) (ho : Off v b) (hf : n + l.length ≤ 64) (hc0 : 0 ≤ c) (hc1 : c ≤ 1000000000) :
    Calls Try.prog 52 #[.pointer (some ⟨b, 0, none⟩), v] w fun e w' => e = .returned (.int .i64 0) ∧ QAt w' b (putR r f n l l.length) f (n + l.length) (c + l.length) g ∧ Chg [b] w w' := by
  by_cases h0 : l.length = 0
  · obtain ⟨a, cap, rfl⟩ := brow_form hv
    obtain rfl := List.length_eq_zero_iff.1 h0
    clear hv ho h0
    simp only [List.length_nil, Nat.add_zero, Int.natCast_zero, Int.add_zero, putR]
    have H := Lib.hid h
    have h2 := h.n64
    have q1 := h.size
    have q3 := h.came
    have q4 := h.free 65
    have q5 := h.free 66
    have q6 := set_off
    clear h
    go_enter Try.func52, Try.ntmps52
    go_wp2_with (go_at_call 26; refine (room_any H.out).mono ?_; rintro e w' ⟨rfl, rfl⟩)
    go_loopw [16] (fun i wr => i = .int .i64 0 ∧ w = wr) (fun i _ => 0)
    case atStart => exact ⟨rfl, rfl⟩
    case round =>
      obtain ⟨rfl, rfl⟩ := hrel
      go_wp2
      go_ret
      exact ⟨rfl, (H.out.setSize n h2).setCame c, ((Chg.refl _ _).setCell (by simp) _).setCell (by simp) _⟩
  · rcases hv with ⟨rfl, _⟩ | ⟨g', o, cap, rfl, hg, hc⟩
    · exact absurd rfl h0
    · exact push_more h l g' o cap hf (ho g' o _ cap rfl (by omega)) hg hc hc0 hc1

/-! ### Peek, Pop -/
/-- How many are told of n that are asked for. -/
def took (n : Int) (size : Nat) : Nat := min n.toNat size

/-- The cells when k of t bytes have been told. -/
def fills (r : Nat → UInt8) (f k t : Nat) : List Value := (List.range t).map fun j => .int .u8 (if j < k then ((r ((f + j) % 64)).toNat : Int) else 0)
theorem fills_len (r : Nat → UInt8) (f k t : Nat) : (fills r f k t).length = t := by simp [fills]
theorem fills_get (r : Nat → UInt8) (f k t j : Nat) (h : j < t) : (fills r f k t)[j]? = some (.int .u8 (if j < k then ((r ((f + j) % 64)).toNat : Int) else 0)) := by simp [fills, h]
theorem fills_zero (r : Nat → UInt8) (f t : Nat) : fills r f 0 t = List.replicate t (.int .u8 0) := by
  apply List.ext_getElem?
  intro j
  by_cases h : j < t
  · rw [fills_get r f 0 t j h, List.getElem?_replicate, if_pos h]; simp
  · rw [List.getElem?_eq_none (by rw [fills_len]; omega), List.getElem?_eq_none (by simp; omega)]
theorem fills_set (r : Nat → UInt8) (f k t : Nat) : (fills r f k t).set k (.int .u8 ((r ((f + k) % 64)).toNat : Int)) = fills r f (k + 1) t := by
  apply List.ext_getElem?
  intro j
  by_cases hj : j < t
  · rw [fills_get r f (k + 1) t j hj, List.getElem?_set]
    by_cases e : k = j
    · subst e
      rw [if_pos rfl, if_pos (by rw [fills_len]; exact hj), if_pos (by omega)]
    · rw [if_neg e, fills_get r f k t j hj]
      by_cases h : j < k
      · rw [if_pos h, if_pos (by omega)]
      · rw [if_neg h, if_neg (by omega)]
  · rw [List.getElem?_eq_none (by rw [List.length_set, fills_len]; omega), List.getElem?_eq_none (by rw [fills_len]; omega)]
theorem fills_all (r : Nat → UInt8) (f t : Nat) : fills r f t t = (qs r f t).map bv := by
  apply List.ext_getElem?
  intro j
  by_cases hj : j < t
  · rw [fills_get r f t t j hj, if_pos hj]
    simp [qs, hj, bv]
  · rw [List.getElem?_eq_none (by rw [fills_len]; omega), List.getElem?_eq_none (by rw [List.length_map, qs_len]; omega)]
theorem ownsRow_drew {w : World} {B e s : Nat} {v : Value} {n : Nat} {xs : List Value} (h : w.ownsRow B e s v n xs) : w.drew.ownsRow B e s v n xs := h

theorem peek_none {w : World} {b : Nat} (n : Int) (h : n < 1) : Calls Try.prog 54 #[.pointer (some ⟨b, 0, none⟩), .int .i64 n] w fun e w' => e = .returned (.slice none 0 0) ∧ w = w' := by
  go_enter Try.func54, Try.ntmps54
  go_wp2
  go_ret
  exact ⟨rfl, rfl⟩

set_option maxRecDepth 100000 in
set_option maxHeartbeats 1000000 in
theorem peek_some {w : World} {b : Nat} {r : Nat → UInt8} {f n : Nat} {c g : Int} (h : QAt w b r f n c g) (m : Int) (hm : 1 ≤ m) :
    Calls Try.prog 54 #[.pointer (some ⟨b, 0, none⟩), .int .i64 m] w fun e w' => ∃ v, e = .returned v ∧ Bys w' w.heap.size v (qs r f (took m n)) ∧ Below w.heap.size w w' := by
  obtain ⟨i0, hi, hz0, hz1, hz2⟩ := info_parts info5
  have H := Lib.hid h
  have h1 := h.size
  have h2 := h.n64
  have h3 := h.f64
  have hlt := h.lt
  obtain ⟨t, ht⟩ : ∃ t, t = took m n := ⟨_, rfl⟩
  have ht1 : t ≤ n := by rw [ht]; unfold took; omega
  have hmin : min m (n : Int) = (t : Int) := by rw [ht]; unfold took; omega
  rw [← ht]
  clear h ht
  go_enter Try.func54, Try.ntmps54
  go_wp2_with (at_make; refine wpList_make_full _ rfl _ _ 22 rfl w.heap.size 5 i0 (.int .u8 0) 1 Try.underlying22 hi hz0 hz1 .i64 .i64 _ _ t rfl rfl (by omega) (by omega) (by rw [hz2]; omega) (by unfold maxLen; omega) (Nat.le_refl _) ?_; intro w1 hown1 hgrow1)
  all_goals
    have hbel1 : Below w.heap.size w w1 := (Below.refl _ _).grown hgrow1 (Nat.le_refl _) (fun k hk => by cases hk)
    have hown2 : w1.ownsRow w.heap.size 5 1 (.slice (some ⟨w.heap.size, 0, none⟩) t t) t (fills r f 0 t) := by
      rw [fills_zero, ← toList_madeCells_one]
      rw [show t * 1 = t by omega] at hown1
      exact hown1
    clear hgrow1 hown1 h1
    go_loopw [22] (fun i wr => ∃ k : Nat, k ≤ t ∧ i = .int .i64 k ∧ wr.ownsRow w.heap.size 5 1 (.slice (some ⟨w.heap.size, 0, none⟩) t t) t (fills r f k t) ∧ Below w.heap.size w wr) (fun i _ => t - (intOf i).toNat)
    case atStart => exact ⟨0, by omega, rfl, hown2, hbel1⟩
    case round =>
      clear hown2 hbel1
      obtain ⟨k, hk, rfl, hown, hbel⟩ := hrel
      by_cases hkt : k < t
      · have hq := H.out.below hbel
        have q1 := hq.first
        have q2 := hq.ring ((f + k) % 64) (by omega)
        have q3 := (World.ownsRow.cellAt hown k (by omega)).trans (fills_get r f k t k hkt)
        have q4 : wr.frozen? ⟨w.heap.size, k, none⟩ = false := World.ownsRow.frozenAt hown _
        have hst := (World.ownsRow.stored hown k (.int .u8 ((r ((f + k) % 64)).toNat : Int))).1
        rw [fills_set r f k t] at hst
        have HS := Lib.hid hst
        clear hq hst
        generalize ((r ((f + k) % 64)).toNat) = y at *
        rw [if_neg (by omega)] at q3
        go_wp2_with fail
        go_region
        go_wp2
        go_roundw
        case rel => exact ⟨k + 1, by omega, by go_num, ownsRow_drew HS.out, (hbel.setCell (Nat.le_refl _) _).drew⟩
        case measure => simp [intOf]; omega
      · obtain rfl : k = t := by omega
        go_wp2_with fail
        go_ret
        refine ⟨_, rfl, ?_, hbel⟩
        unfold Bys
        rw [qs_len, ← fills_all]
        exact hown

/-- A row of new memory stays one while old blocks are written. -/
theorem ownsRow_set {w : World} {B e s : Nat} {v : Value} {n : Nat} {xs : List Value} (h : w.ownsRow B e s v n xs) {p : Addr} (hp : p.block < B) (u : Value) : (w.setCell p u).ownsRow B e s v n xs := ownsRow_setCell_below h hp u
theorem ownsRow_set3 {w : World} {b : Nat} {v : Value} {l : List UInt8} {B o1 o2 o3 : Nat} {u1 u2 u3 : Value} (h : Bys w B v l) (hb : b < B) : Bys (((w.setCell ⟨b, o1, none⟩ u1).setCell ⟨b, o2, none⟩ u2).setCell ⟨b, o3, none⟩ u3) B v l :=
  ownsRow_set (ownsRow_set (ownsRow_set h hb u1) hb u2) hb u3
theorem took_low (m : Int) (n : Nat) (h : m < 1) : took m n = 0 := by unfold took; omega
theorem took_le (m : Int) (n : Nat) : took m n ≤ n := by unfold took; omega

/-- Peek, of any number. -/
theorem peek_any {w : World} {b : Nat} {r : Nat → UInt8} {f n : Nat} {c g : Int} (h : QAt w b r f n c g) (m : Int) :
    Calls Try.prog 54 #[.pointer (some ⟨b, 0, none⟩), .int .i64 m] w fun e w' => ∃ v, e = .returned v ∧ Bys w' w.heap.size v (qs r f (took m n)) ∧ Below w.heap.size w w' := by
  by_cases hm : m < 1
  · rw [took_low m n hm]
    refine (peek_none m hm).mono ?_
    rintro e w' ⟨rfl, rfl⟩
    exact ⟨_, rfl, World.ownsRow_nil _ _ _ _, Below.refl _ _⟩
  · exact peek_some h m (by omega)

set_option maxRecDepth 100000 in
/-- Pop, of any number. -/
theorem pop_any {w : World} {b : Nat} {r : Nat → UInt8} {f n : Nat} {c g : Int} (h : QAt w b r f n c g) (m : Int) (hg0 : 0 ≤ g) (hg1 : g ≤ 1000000000) :
    Calls Try.prog 53 #[.pointer (some ⟨b, 0, none⟩), .int .i64 m] w fun e w' => ∃ v, e = .returned v ∧ Bys w' w.heap.size v (qs r f (took m n)) ∧ QAt w' b r ((f + took m n) % 64) (n - took m n) c (g + took m n) ∧ Chg [b] w w' := by
  have H := Lib.hid (peek_any h m)
  have HQ := Lib.hid h
  have h2 := h.n64
  have h3 := h.f64
  have hlt := h.lt
  have ht := took_le m n
  generalize took m n = t at *
  clear h
  go_enter Try.func53, Try.ntmps53
  go_wp2_with fail
  refine H.out.mono ?_
  rintro e w1 ⟨v, rfl, hb, hbel⟩
  obtain ⟨a, cap, hv⟩ := brow_form (bys_row hb)
  rw [qs_len] at hv
  rw [hv]
  have HB := Lib.hid hb
  have HV := Lib.hid hv
  have hq := HQ.out.below hbel
  have HQ1 := Lib.hid hq
  have q1 := hq.first
  have q2 := hq.size
  have q3 := hq.went
  have q4 := hq.free 64
  have q5 := hq.free 65
  have q6 := hq.free 67
  have q7 := set_off
  clear hq hb hv
  go_wp2
  go_ret
  refine ⟨_, rfl, ?_, ?_, (((Chg.of_below hbel).setCell (by simp) _).setCell (by simp) _).setCell (by simp) _⟩
  · rw [← HV.out]
    exact ownsRow_set3 HB.out hlt
  · have := ((HQ1.out.setFirst ((f + t) % 64) (by omega)).setSize (n - t) (by omega)).setWent (g + t)
    rw [show ((n - t : Nat) : Int) = (n : Int) - t by omega] at this
    simpa using this
end Go.Proofs.Ytinabbdecmjcpaa.Queue
