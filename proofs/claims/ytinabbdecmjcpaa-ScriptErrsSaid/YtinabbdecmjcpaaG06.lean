/- Contracts of package queue: New, Len, Room, Came, Went, Drop, Push, Peek, Pop, over a ring that holds a list of bytes. Contracts of the law's do and awake of layer 25: a step of a queue, as a step on a list of bytes. The contract of the law's awake of layer 25: it returns true, and changes nothing that was there. Lists of steps (a kind, a number, bytes) that came in: what is known of their memory, and how it is read off the row's premise. -/
import Derived.BigRegion
import Derived.Lib.SlBytesConst
import Derived.Lib.SmallJoins
import Derived.Test.YtinabbdecmjcpaaG04
namespace Go.Proofs.Ytinabbdecmjcpaa.Queue
open Go.RowKit Go.Proofs.Ytinabbdecmjcpaa Go.Proofs.Ytinabbdecmjcpaa.Plain Go.Proofs.Ytinabbdecmjcpaa.Words Go.Proofs.Ytinabbdecmjcpaa.Hex
set_option linter.unusedVariables false

/-! ### The ring, plainly -/
/-- The bytes of a ring. -/
def qs (r : Nat → UInt8) (f n : Nat) : List UInt8 := (List.range n).map fun i => r ((f + i) % 64)
/-- The ring behind k bytes that were put. -/
def putR (r : Nat → UInt8) (f n : Nat) (l : List UInt8) : Nat → Nat → UInt8
  | 0 => r
  | k + 1 => fun i => if i = (f + n + k) % 64 then l.getD k 0 else putR r f n l k i

theorem qs_len (r : Nat → UInt8) (f n : Nat) : (qs r f n).length = n := by simp [qs]
theorem qs_succ (r : Nat → UInt8) (f n : Nat) : qs r f (n + 1) = qs r f n ++ [r ((f + n) % 64)] := by simp [qs, List.range_succ]
theorem qs_congr (r r' : Nat → UInt8) (f n : Nat) (h : ∀ i, i < n → r ((f + i) % 64) = r' ((f + i) % 64)) : qs r f n = qs r' f n := by
  unfold qs
  apply List.map_congr_left
  intro i hi
  exact h i (by simpa using hi)
theorem qs_put (r : Nat → UInt8) (f n : Nat) (l : List UInt8) : ∀ k, n + k ≤ 64 → k ≤ l.length → qs (putR r f n l k) f (n + k) = qs r f n ++ l.take k
  | 0, _, _ => by simp [putR]
  | k + 1, h, hl => by
    have ih := qs_put r f n l k (by omega) (by omega)
    rw [← Nat.add_assoc, qs_succ, qs_congr (putR r f n l (k + 1)) (putR r f n l k) f (n + k) (fun i hi => by
      show (if (f + i) % 64 = (f + n + k) % 64 then _ else _) = _
      rw [if_neg (by omega)]), ih]
    have e : putR r f n l (k + 1) ((f + (n + k)) % 64) = l.getD k 0 := by
      show (if (f + (n + k)) % 64 = (f + n + k) % 64 then _ else _) = _
      rw [if_pos (by rw [Nat.add_assoc])]
    rw [e, List.take_succ_eq_append_getElem (by omega : k < l.length), List.append_assoc]
    simp [List.getElem?_eq_getElem (by omega : k < l.length)]
theorem qs_take (r : Nat → UInt8) (f n m : Nat) (h : m ≤ n) : (qs r f n).take m = qs r f m := by
  unfold qs
  rw [← List.map_take, List.take_range, Nat.min_eq_left h]
theorem qs_drop (r : Nat → UInt8) (f n m : Nat) (h : m ≤ n) : (qs r f n).drop m = qs r ((f + m) % 64) (n - m) := by
  apply List.ext_getElem?
  intro i
  by_cases hi : i < n - m
  · rw [List.getElem?_drop]
    simp only [qs, List.getElem?_map, List.getElem?_range (by omega : m + i < n), List.getElem?_range hi, Option.map_some]
    congr 2
    omega
  · rw [List.getElem?_eq_none (by rw [List.length_drop, qs_len]; omega), List.getElem?_eq_none (by rw [qs_len]; omega)]

/-! ### The ring in memory -/
structure QAt (w : World) (b : Nat) (r : Nat → UInt8) (f n : Nat) (came went : Int) : Prop where
  ring : ∀ i, i < 64 → w.cell? ⟨b, i, none⟩ = some (.int .u8 ((r i).toNat : Int))
  first : w.cell? ⟨b, 64, none⟩ = some (.int .i64 (f : Int))
  size : w.cell? ⟨b, 65, none⟩ = some (.int .i64 (n : Int))
  came : w.cell? ⟨b, 66, none⟩ = some (.int .u64 came)
  went : w.cell? ⟨b, 67, none⟩ = some (.int .u64 went)
  free : ∀ o, w.frozen? ⟨b, o, none⟩ = false
  f64 : f < 64
  n64 : n ≤ 64

theorem QAt.lt {w : World} {b : Nat} {r : Nat → UInt8} {f n : Nat} {c g : Int} (h : QAt w b r f n c g) : b < w.heap.size := World.block_lt_of_cell? _ _ h.first
theorem QAt.chg {w w' : World} {b : Nat} {bs : List Nat} {r : Nat → UInt8} {f n : Nat} {c g : Int} (h : QAt w b r f n c g) (hc : Chg bs w w') (hb : b ∉ bs) : QAt w' b r f n c g :=
  ⟨fun i hi => (hc.cell (p := ⟨b, i, none⟩) h.lt hb).trans (h.ring i hi), (hc.cell (p := ⟨b, 64, none⟩) h.lt hb).trans h.first, (hc.cell (p := ⟨b, 65, none⟩) h.lt hb).trans h.size, (hc.cell (p := ⟨b, 66, none⟩) h.lt hb).trans h.came, (hc.cell (p := ⟨b, 67, none⟩) h.lt hb).trans h.went,
   fun o => (hc.frozen (p := ⟨b, o, none⟩) h.lt hb).trans (h.free o), h.f64, h.n64⟩
theorem QAt.drew {w : World} {b : Nat} {r : Nat → UInt8} {f n : Nat} {c g : Int} (h : QAt w b r f n c g) : QAt w.drew b r f n c g := ⟨h.ring, h.first, h.size, h.came, h.went, h.free, h.f64, h.n64⟩
theorem QAt.below {w w' : World} {b : Nat} {r : Nat → UInt8} {f n : Nat} {c g : Int} (h : QAt w b r f n c g) (hb : Below w.heap.size w w') : QAt w' b r f n c g := h.chg (bs := []) (Chg.of_below hb) (by simp)

theorem set_off (W : World) (b i j : Nat) (v : Value) (h : i ≠ j) : (W.setCell ⟨b, i, none⟩ v).cell? ⟨b, j, none⟩ = W.cell? ⟨b, j, none⟩ := World.cell?_setCell_other _ _ _ _ (fun e => h (congrArg Addr.off e))

theorem QAt.put {w : World} {b : Nat} {r : Nat → UInt8} {f n : Nat} {c g : Int} (h : QAt w b r f n c g) (j : Nat) (hj : j < 64) (x : UInt8) : QAt (w.setCell ⟨b, j, none⟩ (.int .u8 (x.toNat : Int))) b (fun i => if i = j then x else r i) f n c g :=
  ⟨fun i hi => by
    by_cases e : i = j
    · subst e
      rw [if_pos rfl, World.cell?_setCell_same _ _ _ (h.ring i hi)]
    · rw [if_neg e, set_off _ _ _ _ _ (fun x => e x.symm)]
      exact h.ring i hi, (set_off _ _ _ _ _ (by omega)).trans h.first, (set_off _ _ _ _ _ (by omega)).trans h.size, (set_off _ _ _ _ _ (by omega)).trans h.came, (set_off _ _ _ _ _ (by omega)).trans h.went, fun o => by simpa using h.free o, h.f64, h.n64⟩
theorem QAt.setFirst {w : World} {b : Nat} {r : Nat → UInt8} {f n : Nat} {c g : Int} (h : QAt w b r f n c g) (f' : Nat) (hf : f' < 64) : QAt (w.setCell ⟨b, 64, none⟩ (.int .i64 (f' : Int))) b r f' n c g :=
  ⟨fun i hi => (set_off _ _ _ _ _ (by omega)).trans (h.ring i hi), World.cell?_setCell_same _ _ _ h.first, (set_off _ _ _ _ _ (by omega)).trans h.size, (set_off _ _ _ _ _ (by omega)).trans h.came, (set_off _ _ _ _ _ (by omega)).trans h.went, fun o => by simpa using h.free o, hf, h.n64⟩
theorem QAt.setSize {w : World} {b : Nat} {r : Nat → UInt8} {f n : Nat} {c g : Int} (h : QAt w b r f n c g) (n' : Nat) (hn : n' ≤ 64) : QAt (w.setCell ⟨b, 65, none⟩ (.int .i64 (n' : Int))) b r f n' c g :=
  ⟨fun i hi => (set_off _ _ _ _ _ (by omega)).trans (h.ring i hi), (set_off _ _ _ _ _ (by omega)).trans h.first, World.cell?_setCell_same _ _ _ h.size, (set_off _ _ _ _ _ (by omega)).trans h.came, (set_off _ _ _ _ _ (by omega)).trans h.went, fun o => by simpa using h.free o, h.f64, hn⟩
theorem QAt.setCame {w : World} {b : Nat} {r : Nat → UInt8} {f n : Nat} {c g : Int} (h : QAt w b r f n c g) (c' : Int) : QAt (w.setCell ⟨b, 66, none⟩ (.int .u64 c')) b r f n c' g :=
  ⟨fun i hi => (set_off _ _ _ _ _ (by omega)).trans (h.ring i hi), (set_off _ _ _ _ _ (by omega)).trans h.first, (set_off _ _ _ _ _ (by omega)).trans h.size, World.cell?_setCell_same _ _ _ h.came, (set_off _ _ _ _ _ (by omega)).trans h.went, fun o => by simpa using h.free o, h.f64, h.n64⟩
theorem QAt.setWent {w : World} {b : Nat} {r : Nat → UInt8} {f n : Nat} {c g : Int} (h : QAt w b r f n c g) (g' : Int) : QAt (w.setCell ⟨b, 67, none⟩ (.int .u64 g')) b r f n c g' :=
  ⟨fun i hi => (set_off _ _ _ _ _ (by omega)).trans (h.ring i hi), (set_off _ _ _ _ _ (by omega)).trans h.first, (set_off _ _ _ _ _ (by omega)).trans h.size, (set_off _ _ _ _ _ (by omega)).trans h.came, World.cell?_setCell_same _ _ _ h.went, fun o => by simpa using h.free o, h.f64, h.n64⟩

/-! ### What only looks -/
theorem len_any {w : World} {b : Nat} {r : Nat → UInt8} {f n : Nat} {c g : Int} (h : QAt w b r f n c g) : Calls Try.prog 25 #[.pointer (some ⟨b, 0, none⟩)] w fun e w' => e = .returned (.int .i64 (n : Int)) ∧ w = w' := by
  have h1 := h.size
  clear h
  go_enter Try.func25, Try.ntmps25
  go_wp2
  go_ret
  exact ⟨rfl, rfl⟩
theorem room_any {w : World} {b : Nat} {r : Nat → UInt8} {f n : Nat} {c g : Int} (h : QAt w b r f n c g) : Calls Try.prog 26 #[.pointer (some ⟨b, 0, none⟩)] w fun e w' => e = .returned (.int .i64 (64 - (n : Int))) ∧ w = w' := by
  have h1 := h.size
  have h2 := h.n64
  clear h
  go_enter Try.func26, Try.ntmps26
  go_wp2
  go_ret
  exact ⟨rfl, rfl⟩
theorem came_any {w : World} {b : Nat} {r : Nat → UInt8} {f n : Nat} {c g : Int} (h : QAt w b r f n c g) : Calls Try.prog 27 #[.pointer (some ⟨b, 0, none⟩)] w fun e w' => e = .returned (.int .u64 c) ∧ w = w' := by
  have h1 := h.came
  clear h
  go_enter Try.func27, Try.ntmps27
  go_wp2
  go_ret
  exact ⟨rfl, rfl⟩
theorem went_any {w : World} {b : Nat} {r : Nat → UInt8} {f n : Nat} {c g : Int} (h : QAt w b r f n c g) : Calls Try.prog 28 #[.pointer (some ⟨b, 0, none⟩)] w fun e w' => e = .returned (.int .u64 g) ∧ w = w' := by
  have h1 := h.went
  clear h
  go_enter Try.func28, Try.ntmps28
  go_wp2
  go_ret
  exact ⟨rfl, rfl⟩

/-! ### New, Drop -/
def zeroQ : Array Value := (List.replicate 64 (Value.int .u8 0) ++ [Value.int .i64 0, Value.int .i64 0, Value.int .u64 0, Value.int .u64 0]).toArray
theorem zero88 : Try.zeroCells88 = zeroQ := by kernel_rfl
theorem qat_zero (w : World) : QAt (w.alloc (.cells zeroQ 88)) w.heap.size (fun _ => 0) 0 0 0 0 :=
  ⟨fun i hi => by
    rw [World.cell?_alloc_at _ _ _ _ rfl]
    show (List.toArray _)[i]? = _
    rw [List.getElem?_toArray, List.getElem?_append_left (by simpa using hi), List.getElem?_replicate, if_pos hi]
    rfl, World.cell?_alloc_at _ _ _ _ rfl, World.cell?_alloc_at _ _ _ _ rfl, World.cell?_alloc_at _ _ _ _ rfl, World.cell?_alloc_at _ _ _ _ rfl, fun o => World.frozen?_alloc_at _ _ _ _ rfl, by omega, by omega⟩
theorem new_any (w : World) : Calls Try.prog 22 #[] w fun e w' => e = .returned (.pointer (some ⟨w.heap.size, 0, none⟩)) ∧ QAt w' w.heap.size (fun _ => 0) 0 0 0 0 ∧ Below w.heap.size w w' := by
  go_enter Try.func22, Try.ntmps22
  go_wp2
  go_ret
  rw [zero88]
  exact ⟨rfl, qat_zero w, (Below.refl _ _).alloc (Nat.le_refl _) _⟩

theorem drop_any {w : World} {b : Nat} {r : Nat → UInt8} {f n : Nat} {c g : Int} (h : QAt w b r f n c g) : Calls Try.prog 55 #[.pointer (some ⟨b, 0, none⟩)] w fun e w' => e = .returned (.int .i64 (n : Int)) ∧ QAt w' b r 0 0 c g ∧ Chg [b] w w' := by
  have h1 := h.size
  have h2 := h.first
  have h3 := h.free 64
  have h4 := h.free 65
  have h5 := set_off
  have H := Lib.hid h
  clear h
  go_enter Try.func55, Try.ntmps55
  go_wp2
  go_ret
  exact ⟨rfl, (H.out.setFirst 0 (by omega)).setSize 0 (by omega), ((Chg.refl _ _).setCell (by simp) _).setCell (by simp) _⟩

/-! ### Push -/
theorem push_full {w : World} {b : Nat} {r : Nat → UInt8} {f n : Nat} {c g : Int} (h : QAt w b r f n c g) (a : Option Addr) (len cap : Nat) (hf : 64 < n + len) : Calls Try.prog 52 #[.pointer (some ⟨b, 0, none⟩), .slice a len cap] w fun e w' => e = .returned (.int .i64 15) ∧ w = w' := by
  have H := Lib.hid h
  have h2 := h.n64
  clear h
  go_enter Try.func52, Try.ntmps52
  go_wp2_with (go_at_call 26; refine (room_any H.out).mono ?_; rintro e w' ⟨rfl, rfl⟩)
  go_ret
  exact ⟨rfl, rfl⟩

set_option maxRecDepth 100000 in
set_option maxHeartbeats 1000000 in
theorem push_more {w : World} {b : Nat} {r : Nat → UInt8} {f n : Nat} {c g : Int} (h : QAt w b r f n c g) (l : List UInt8) (gl ol cap : Nat) (hf : n + l.length ≤ 64) (hne : gl ≠ b) (hg : gl < w.heap.size) (hl : ∀ i (h : i < l.length), w.cell? ⟨gl, ol + i, none⟩ = some (bv l[i])) (hc0 : 0 ≤ c) (hc1 : c ≤ 1000000000) :
    Calls Try.prog 52 #[.pointer (some ⟨b, 0, none⟩), .slice (some ⟨gl, ol, none⟩) l.length cap] w fun e w' => e = .returned (.int .i64 0) ∧ QAt w' b (putR r f n l l.length) f (n + l.length) (c + l.length) g ∧ Chg [b] w w' := by
  have H := Lib.hid h
  have HL := Lib.hid hl
  have h2 := h.n64
  have h3 := h.f64
  clear h hl
  go_enter Try.func52, Try.ntmps52
  go_wp2_with (go_at_call 26; refine (room_any H.out).mono ?_; rintro e w' ⟨rfl, rfl⟩)
  go_loopw [16] (fun i wr => ∃ k : Nat, k ≤ l.length ∧ i = .int .i64 k ∧ QAt wr b (putR r f n l k) f n c g ∧ Chg [b] w wr) (fun i _ => l.length - (intOf i).toNat)
  case atStart => exact ⟨0, by omega, rfl, H.out, Chg.refl _ _⟩
  case round =>
    obtain ⟨k, hk, rfl, hq, hch⟩ := hrel
    have HQ := Lib.hid hq
    have q1 := hq.first
    have q2 := hq.size
    by_cases hlt : k < l.length
    · have hx : wr.cell? ⟨gl, ol + k, none⟩ = some (.int .u8 ((l[k]).toNat : Int)) := (hch.cell (p := ⟨gl, ol + k, none⟩) hg (by simpa using hne)).trans (HL.out k hlt)
      have hr := hq.ring ((f + n + k) % 64) (by omega)
      have hz := hq.free ((f + n + k) % 64)
      have hp := hq.put ((f + n + k) % 64) (by omega) l[k]
      have hp2 : QAt (wr.setCell ⟨b, (f + n + k) % 64, none⟩ (.int .u8 ((l[k]).toNat : Int))) b (putR r f n l (k + 1)) f n c g := by
        have e : (fun i => if i = (f + n + k) % 64 then l[k] else putR r f n l k i) = putR r f n l (k + 1) := by
          funext i
          show _ = (if i = (f + n + k) % 64 then l.getD k 0 else _)
          simp [hlt]
        rw [← e]
        exact hp
      have HP := Lib.hid hp2
      clear hp hp2 hq
      generalize (l[k]).toNat = x at *
      generalize ((putR r f n l k ((f + n + k) % 64)).toNat) = y at *
      go_wp2_with fail
      go_region
      go_wp2
      go_roundw
      case rel => exact ⟨k + 1, by omega, by go_num, HP.out.drew, (hch.setCell (p := ⟨b, (f + n + k) % 64, none⟩) (by simp) _).drew⟩
      case measure => simp [intOf]; omega
    · obtain rfl : k = l.length := by omega
      have q3 := hq.came
      have q4 := hq.free 65
      have q5 := hq.free 66
      have q6 := set_off
      clear hq
      go_wp2
      go_ret
      refine ⟨rfl, ?_, (hch.setCell (by simp) _).setCell (by simp) _⟩
      have := (HQ.out.setSize (n + l.length) hf).setCame (c + l.length)
      simpa using this

/-- A slice of bytes that lies outside a block. -/
def Off (v : Value) (b : Nat) : Prop := ∀ g o len cap, v = .slice (some ⟨g, o, none⟩) len cap → 0 < len → g ≠ b

/-- Push, where there is room. -/
theorem push_ok {w : World} {b : Nat} {r : Nat → UInt8} {f n : Nat} {c g : Int} (h : QAt w b r f n c g) (l : List UInt8) (v : Value) (hv : BRow w v l) (ho : Off v b) (hf : n + l.length ≤ 64) (hc0 : 0 ≤ c) (hc1 : c ≤ 1000000000) :
    Calls Try.prog 52 #[.pointer (some ⟨b, 0, none⟩), v] w fun e w' => e = .returned (.int .i64 0) ∧ QAt w' b (putR r f n l l.length) f (n + l.length) (c + l.length) g ∧ Chg [b] w w' := by
  by_cases h0 : l.length = 0
  · obtain ⟨a, cap, rfl⟩ := brow_form hv
    obtain rfl := List.length_eq_zero_iff.1 h0
    clear hv ho h0
    simp only [List.length_nil, Nat.add_zero, Int.natCast_zero, Int.add_zero, putR]
    have H := Lib.hid h
    have h2 := h.n64
    have q1 := h.size
    have q3 := h.came
    have q4 := h.free 65
    have q5 := h.free 66
    have q6 := set_off
    clear h
    go_enter Try.func52, Try.ntmps52
    go_wp2_with (go_at_call 26; refine (room_any H.out).mono ?_; rintro e w' ⟨rfl, rfl⟩)
    go_loopw [16] (fun i wr => i = .int .i64 0 ∧ w = wr) (fun i _ => 0)
    case atStart => exact ⟨rfl, rfl⟩
    case round =>
      obtain ⟨rfl, rfl⟩ := hrel
      go_wp2
      go_ret
      exact ⟨rfl, (H.out.setSize n h2).setCame c, ((Chg.refl _ _).setCell (by simp) _).setCell (by simp) _⟩
  · rcases hv with ⟨rfl, _⟩ | ⟨g', o, cap, rfl, hg, hc⟩
    · exact absurd rfl h0
    · exact push_more h l g' o cap hf (ho g' o _ cap rfl (by omega)) hg hc hc0 hc1

/-! ### Peek, Pop -/
/-- How many are told of n that are asked for. -/
def took (n : Int) (size : Nat) : Nat := min n.toNat size

/-- The cells when k of t bytes have been told. -/
def fills (r : Nat → UInt8) (f k t : Nat) : List Value := (List.range t).map fun j => .int .u8 (if j < k then ((r ((f + j) % 64)).toNat : Int) else 0)
theorem fills_len (r : Nat → UInt8) (f k t : Nat) : (fills r f k t).length = t := by simp [fills]
theorem fills_get (r : Nat → UInt8) (f k t j : Nat) (h : j < t) : (fills r f k t)[j]? = some (.int .u8 (if j < k then ((r ((f + j) % 64)).toNat : Int) else 0)) := by simp [fills, h]
theorem fills_zero (r : Nat → UInt8) (f t : Nat) : fills r f 0 t = List.replicate t (.int .u8 0) := by
  apply List.ext_getElem?
  intro j
  by_cases h : j < t
  · rw [fills_get r f 0 t j h, List.getElem?_replicate, if_pos h]; simp
  · rw [List.getElem?_eq_none (by rw [fills_len]; omega), List.getElem?_eq_none (by simp; omega)]
theorem fills_set (r : Nat → UInt8) (f k t : Nat) : (fills r f k t).set k (.int .u8 ((r ((f + k) % 64)).toNat : Int)) = fills r f (k + 1) t := by
  apply List.ext_getElem?
  intro j
  by_cases hj : j < t
  · rw [fills_get r f (k + 1) t j hj, List.getElem?_set]
    by_cases e : k = j
    · subst e
      rw [if_pos rfl, if_pos (by rw [fills_len]; exact hj), if_pos (by omega)]
    · rw [if_neg e, fills_get r f k t j hj]
      by_cases h : j < k
      · rw [if_pos h, if_pos (by omega)]
      · rw [if_neg h, if_neg (by omega)]
  · rw [List.getElem?_eq_none (by rw [List.length_set, fills_len]; omega), List.getElem?_eq_none (by rw [fills_len]; omega)]
theorem fills_all (r : Nat → UInt8) (f t : Nat) : fills r f t t = (qs r f t).map bv := by
  apply List.ext_getElem?
  intro j
  by_cases hj : j < t
  · rw [fills_get r f t t j hj, if_pos hj]
    simp [qs, hj, bv]
  · rw [List.getElem?_eq_none (by rw [fills_len]; omega), List.getElem?_eq_none (by rw [List.length_map, qs_len]; omega)]
theorem ownsRow_drew {w : World} {B e s : Nat} {v : Value} {n : Nat} {xs : List Value} (h : w.ownsRow B e s v n xs) : w.drew.ownsRow B e s v n xs := h

theorem peek_none {w : World} {b : Nat} (n : Int) (h : n < 1) : Calls Try.prog 54 #[.pointer (some ⟨b, 0, none⟩), .int .i64 n] w fun e w' => e = .returned (.slice none 0 0) ∧ w = w' := by
  go_enter Try.func54, Try.ntmps54
  go_wp2
  go_ret
  exact ⟨rfl, rfl⟩

set_option maxRecDepth 100000 in
set_option maxHeartbeats 1000000 in
theorem peek_some {w : World} {b : Nat} {r : Nat → UInt8} {f n : Nat} {c g : Int} (h : QAt w b r f n c g) (m : Int) (hm : 1 ≤ m) :
    Calls Try.prog 54 #[.pointer (some ⟨b, 0, none⟩), .int .i64 m] w fun e w' => ∃ v, e = .returned v ∧ Bys w' w.heap.size v (qs r f (took m n)) ∧ Below w.heap.size w w' := by
  obtain ⟨i0, hi, hz0, hz1, hz2⟩ := info_parts info5
  have H := Lib.hid h
  have h1 := h.size
  have h2 := h.n64
  have h3 := h.f64
  have hlt := h.lt
  obtain ⟨t, ht⟩ : ∃ t, t = took m n := ⟨_, rfl⟩
  have ht1 : t ≤ n := by rw [ht]; unfold took; omega
  have hmin : min m (n : Int) = (t : Int) := by rw [ht]; unfold took; omega
  rw [← ht]
  clear h ht
  go_enter Try.func54, Try.ntmps54
  go_wp2_with (at_make; refine wpList_make_full _ rfl _ _ 22 rfl w.heap.size 5 i0 (.int .u8 0) 1 Try.underlying22 hi hz0 hz1 .i64 .i64 _ _ t rfl rfl (by omega) (by omega) (by rw [hz2]; omega) (by unfold maxLen; omega) (Nat.le_refl _) ?_; intro w1 hown1 hgrow1)
  all_goals
    have hbel1 : Below w.heap.size w w1 := (Below.refl _ _).grown hgrow1 (Nat.le_refl _) (fun k hk => by cases hk)
    have hown2 : w1.ownsRow w.heap.size 5 1 (.slice (some ⟨w.heap.size, 0, none⟩) t t) t (fills r f 0 t) := by
      rw [fills_zero, ← toList_madeCells_one]
      rw [show t * 1 = t by omega] at hown1
      exact hown1
    clear hgrow1 hown1 h1
    go_loopw [22] (fun i wr => ∃ k : Nat, k ≤ t ∧ i = .int .i64 k ∧ wr.ownsRow w.heap.size 5 1 (.slice (some ⟨w.heap.size, 0, none⟩) t t) t (fills r f k t) ∧ Below w.heap.size w wr) (fun i _ => t - (intOf i).toNat)
    case atStart => exact ⟨0, by omega, rfl, hown2, hbel1⟩
    case round =>
      clear hown2 hbel1
      obtain ⟨k, hk, rfl, hown, hbel⟩ := hrel
      by_cases hkt : k < t
      · have hq := H.out.below hbel
        have q1 := hq.first
        have q2 := hq.ring ((f + k) % 64) (by omega)
        have q3 := (World.ownsRow.cellAt hown k (by omega)).trans (fills_get r f k t k hkt)
        have q4 : wr.frozen? ⟨w.heap.size, k, none⟩ = false := World.ownsRow.frozenAt hown _
        have hst := (World.ownsRow.stored hown k (.int .u8 ((r ((f + k) % 64)).toNat : Int))).1
        rw [fills_set r f k t] at hst
        have HS := Lib.hid hst
        clear hq hst
        generalize ((r ((f + k) % 64)).toNat) = y at *
        rw [if_neg (by omega)] at q3
        go_wp2_with fail
        go_region
        go_wp2
        go_roundw
        case rel => exact ⟨k + 1, by omega, by go_num, ownsRow_drew HS.out, (hbel.setCell (Nat.le_refl _) _).drew⟩
        case measure => simp [intOf]; omega
      · obtain rfl : k = t := by omega
        go_wp2_with fail
        go_ret
        refine ⟨_, rfl, ?_, hbel⟩
        unfold Bys
        rw [qs_len, ← fills_all]
        exact hown

/-- A row of new memory stays one while old blocks are written. -/
theorem ownsRow_set {w : World} {B e s : Nat} {v : Value} {n : Nat} {xs : List Value} (h : w.ownsRow B e s v n xs) {p : Addr} (hp : p.block < B) (u : Value) : (w.setCell p u).ownsRow B e s v n xs := ownsRow_setCell_below h hp u
theorem ownsRow_set3 {w : World} {b : Nat} {v : Value} {l : List UInt8} {B o1 o2 o3 : Nat} {u1 u2 u3 : Value} (h : Bys w B v l) (hb : b < B) : Bys (((w.setCell ⟨b, o1, none⟩ u1).setCell ⟨b, o2, none⟩ u2).setCell ⟨b, o3, none⟩ u3) B v l :=
  ownsRow_set (ownsRow_set (ownsRow_set h hb u1) hb u2) hb u3
theorem took_low (m : Int) (n : Nat) (h : m < 1) : took m n = 0 := by unfold took; omega
theorem took_le (m : Int) (n : Nat) : took m n ≤ n := by unfold took; omega

/-- Peek, of any number. -/
theorem peek_any {w : World} {b : Nat} {r : Nat → UInt8} {f n : Nat} {c g : Int} (h : QAt w b r f n c g) (m : Int) :
    Calls Try.prog 54 #[.pointer (some ⟨b, 0, none⟩), .int .i64 m] w fun e w' => ∃ v, e = .returned v ∧ Bys w' w.heap.size v (qs r f (took m n)) ∧ Below w.heap.size w w' := by
  by_cases hm : m < 1
  · rw [took_low m n hm]
    refine (peek_none m hm).mono ?_
    rintro e w' ⟨rfl, rfl⟩
    exact ⟨_, rfl, World.ownsRow_nil _ _ _ _, Below.refl _ _⟩
  · exact peek_some h m (by omega)

set_option maxRecDepth 100000 in
/-- Pop, of any number. -/
theorem pop_any {w : World} {b : Nat} {r : Nat → UInt8} {f n : Nat} {c g : Int} (h : QAt w b r f n c g) (m : Int) (hg0 : 0 ≤ g) (hg1 : g ≤ 1000000000) :
    Calls Try.prog 53 #[.pointer (some ⟨b, 0, none⟩), .int .i64 m] w fun e w' => ∃ v, e = .returned v ∧ Bys w' w.heap.size v (qs r f (took m n)) ∧ QAt w' b r ((f + took m n) % 64) (n - took m n) c (g + took m n) ∧ Chg [b] w w' := by
  have H := Lib.hid (peek_any h m)
  have HQ := Lib.hid h
  have h2 := h.n64
  have h3 := h.f64
  have hlt := h.lt
  have ht := took_le m n
  generalize took m n = t at *
  clear h
  go_enter Try.func53, Try.ntmps53
  go_wp2_with fail
  refine H.out.mono ?_
  rintro e w1 ⟨v, rfl, hb, hbel⟩
  obtain ⟨a, cap, hv⟩ := brow_form (bys_row hb)
  rw [qs_len] at hv
  rw [hv]
  have HB := Lib.hid hb
  have HV := Lib.hid hv
  have hq := HQ.out.below hbel
  have HQ1 := Lib.hid hq
  have q1 := hq.first
  have q2 := hq.size
  have q3 := hq.went
  have q4 := hq.free 64
  have q5 := hq.free 65
  have q6 := hq.free 67
  have q7 := set_off
  clear hq hb hv
  go_wp2
  go_ret
  refine ⟨_, rfl, ?_, ?_, (((Chg.of_below hbel).setCell (by simp) _).setCell (by simp) _).setCell (by simp) _⟩
  · rw [← HV.out]
    exact ownsRow_set3 HB.out hlt
  · have := ((HQ1.out.setFirst ((f + t) % 64) (by omega)).setSize (n - t) (by omega)).setWent (g + t)
    rw [show ((n - t : Nat) : Int) = (n : Int) - t by omega] at this
    simpa using this
end Go.Proofs.Ytinabbdecmjcpaa.Queue

namespace Go.Proofs.Ytinabbdecmjcpaa.Queue
open Go.RowKit Go.Proofs.Ytinabbdecmjcpaa Go.Proofs.Ytinabbdecmjcpaa.Plain Go.Proofs.Ytinabbdecmjcpaa.Words Go.Proofs.Ytinabbdecmjcpaa.Hex
set_option linter.unusedVariables false

/-- A queue that holds a list of bytes. -/
def QIs (w : World) (b : Nat) (q : List UInt8) (c g : Int) : Prop := ∃ r f, QAt w b r f q.length c g ∧ qs r f q.length = q
theorem QIs.len {w : World} {b : Nat} {q : List UInt8} {c g : Int} (h : QIs w b q c g) : q.length ≤ 64 := by obtain ⟨r, f, h, _⟩ := h; exact h.n64
theorem QIs.lt {w : World} {b : Nat} {q : List UInt8} {c g : Int} (h : QIs w b q c g) : b < w.heap.size := by obtain ⟨r, f, h, _⟩ := h; exact h.lt
theorem QIs.chg {w w' : World} {b : Nat} {bs : List Nat} {q : List UInt8} {c g : Int} (h : QIs w b q c g) (hc : Chg bs w w') (hb : b ∉ bs) : QIs w' b q c g := by
  obtain ⟨r, f, h, e⟩ := h; exact ⟨r, f, h.chg hc hb, e⟩
theorem QIs.below {w w' : World} {b : Nat} {q : List UInt8} {c g : Int} (h : QIs w b q c g) (hb : Below w.heap.size w w') : QIs w' b q c g := h.chg (bs := []) (Chg.of_below hb) (by simp)

/-- What a step tells, and leaves. -/
structure Told where
  out : List UInt8
  num : Int
  err : Int
  q : List UInt8
  came : Int
  went : Int

/-- A step. -/
def step (kind n : Int) (l q : List UInt8) (c g : Int) : Told :=
  if kind = 1 then (if 64 < q.length + l.length then ⟨[], 0, 15, q, c, g⟩ else ⟨[], 0, 0, q ++ l, c + l.length, g⟩)
  else if kind = 2 then ⟨q.take (took n q.length), 0, 0, q.drop (took n q.length), c, g + took n q.length⟩
  else if kind = 3 then ⟨q.take (took n q.length), 0, 0, q, c, g⟩
  else if kind = 4 then ⟨[], q.length, 0, [], c, g⟩
  else ⟨[], 0, 0, q, c, g⟩

/-- What the call leaves. -/
def DoPost (b : Nat) (t : Told) (w : World) (e : Ending) (w' : World) : Prop :=
  ∃ v, e = .returned (.tuple #[v, .int .i64 t.num, .int .i64 t.err]) ∧ Bys w' w.heap.size v t.out ∧ QIs w' b t.q t.came t.went ∧ Chg [b] w w'

theorem bys_mono {w : World} {B C : Nat} {v : Value} {l : List UInt8} (h : B ≤ C) (hs : Bys w C v l) : Bys w B v l := by
  obtain ⟨h1, h2⟩ := hs
  refine ⟨h1, ?_⟩
  rcases h2 with h2 | ⟨g, cap, cur, a, b, c⟩
  · exact .inl h2
  · exact .inr ⟨g, cap, cur, a, by omega, c⟩
theorem chg_alloc {bs : List Nat} {w w' : World} {o : Obj} (h : Chg bs (w.alloc o) w') : Chg bs w w' := ((Chg.refl bs w).alloc o).trans h

set_option maxRecDepth 100000 in
set_option maxHeartbeats 1000000 in
theorem do_any {w : World} {b : Nat} {q : List UInt8} {c g : Int} (kind n : Int) (l : List UInt8) (v : Value) (h : QIs w b q c g) (hv : BRow w v l) (ho : Off v b) (hc0 : 0 ≤ c) (hc1 : c ≤ 1000000000) (hg0 : 0 ≤ g) (hg1 : g ≤ 1000000000) :
    Calls Try.prog 23 #[.pointer (some ⟨b, 0, none⟩), .agg #[.int .i64 kind, .int .i64 n, v]] w (DoPost b (step kind n l q c g) w) := by
  have H := Lib.hid (h.below ((Below.refl _ _).alloc (Nat.le_refl _) (.cells #[.int .i64 kind, .int .i64 n, v] 48)))
  have HV := Lib.hid (brow_below ((Below.refl _ _).alloc (Nat.le_refl _) (.cells #[.int .i64 kind, .int .i64 n, v] 48)) hv)
  have HO := Lib.hid ho
  obtain ⟨a, cap, rfl⟩ := brow_form hv
  clear h hv ho
  by_cases k1 : kind = 1
  · subst k1
    obtain ⟨r, f, hq, he⟩ := H.out
    by_cases hf : 64 < q.length + l.length
    · rw [show step 1 n l q c g = ⟨[], 0, 15, q, c, g⟩ by simp [step, hf]]
      have HQ := Lib.hid hq
      clear hq he
      go_enter Try.func23, Try.ntmps23
      go_wp2_with fail
      refine (push_full HQ.out a l.length cap hf).mono ?_
      rintro e w' ⟨rfl, rfl⟩
      go_wp2
      go_ret3
      exact ⟨_, rfl, World.ownsRow_nil _ _ _ _, H.out, (Chg.refl _ _).alloc _⟩
    · rw [show step 1 n l q c g = ⟨[], 0, 0, q ++ l, c + l.length, g⟩ by simp [step, hf]]
      have HQ := Lib.hid hq
      have HE := Lib.hid he
      clear hq he
      go_enter Try.func23, Try.ntmps23
      go_wp2_with fail
      refine (push_ok HQ.out l _ HV.out HO.out (by omega) hc0 hc1).mono ?_
      rintro e w1 ⟨rfl, hq1, hch⟩
      go_wp2
      go_ret3
      refine ⟨_, rfl, World.ownsRow_nil _ _ _ _, ⟨_, f, by simpa using hq1, ?_⟩, chg_alloc hch⟩
      show qs _ f (q ++ l).length = q ++ l
      rw [List.length_append, qs_put r f q.length l l.length (by omega) (Nat.le_refl _), HE.out, List.take_length]
  · have k1b : (kind == 1) = false := by simp [k1]
    by_cases k2 : kind = 2
    · subst k2
      obtain ⟨r, f, hq, he⟩ := H.out
      rw [show step 2 n l q c g = ⟨q.take (took n q.length), 0, 0, q.drop (took n q.length), c, g + took n q.length⟩ by simp [step]]
      have HQ := Lib.hid hq
      have HE := Lib.hid he
      have ht := took_le n q.length
      clear hq he k1 k1b
      go_enter Try.func23, Try.ntmps23
      go_wp2_with fail
      refine (pop_any HQ.out n hg0 hg1).mono ?_
      rintro e w1 ⟨v', rfl, hb1, hq1, hch⟩
      go_wp2
      go_ret3
      have e1 : q.take (took n q.length) = qs r f (took n q.length) := by
        have := qs_take r f q.length (took n q.length) ht
        rw [HE.out] at this
        exact this
      have e2 : q.drop (took n q.length) = qs r ((f + took n q.length) % 64) (q.length - took n q.length) := by
        have := qs_drop r f q.length (took n q.length) ht
        rw [HE.out] at this
        exact this
      refine ⟨_, rfl, ?_, ⟨r, (f + took n q.length) % 64, ?_, ?_⟩, chg_alloc hch⟩
      · show Bys _ _ _ (q.take _)
        rw [e1]
        exact bys_mono (by simp) hb1
      · show QAt _ _ _ _ (q.drop _).length _ _
        rw [List.length_drop]
        exact hq1
      · show qs _ _ (q.drop _).length = q.drop _
        rw [List.length_drop]
        exact e2.symm
    · have k2b : (kind == 2) = false := by simp [k2]
      by_cases k3 : kind = 3
      · subst k3
        obtain ⟨r, f, hq, he⟩ := H.out
        rw [show step 3 n l q c g = ⟨q.take (took n q.length), 0, 0, q, c, g⟩ by simp [step]]
        have HQ := Lib.hid hq
        have HE := Lib.hid he
        have ht := took_le n q.length
        clear hq he k1 k1b k2 k2b
        go_enter Try.func23, Try.ntmps23
        go_wp2_with fail
        refine (peek_any HQ.out n).mono ?_
        rintro e w1 ⟨v', rfl, hb1, hbel⟩
        go_wp2
        go_ret3
        have e1 : q.take (took n q.length) = qs r f (took n q.length) := by
          have := qs_take r f q.length (took n q.length) ht
          rw [HE.out] at this
          exact this
        refine ⟨_, rfl, ?_, H.out.below hbel, chg_alloc (Chg.of_below hbel)⟩
        show Bys _ _ _ (q.take _)
        rw [e1]
        exact bys_mono (by simp) hb1
      · have k3b : (kind == 3) = false := by simp [k3]
        by_cases k4 : kind = 4
        · subst k4
          obtain ⟨r, f, hq, he⟩ := H.out
          rw [show step 4 n l q c g = ⟨[], q.length, 0, [], c, g⟩ by simp [step]]
          have HQ := Lib.hid hq
          clear hq he k1 k1b k2 k2b k3 k3b
          go_enter Try.func23, Try.ntmps23
          go_wp2_with fail
          refine (drop_any HQ.out).mono ?_
          rintro e w1 ⟨rfl, hq1, hch⟩
          go_wp2
          go_ret3
          exact ⟨_, rfl, World.ownsRow_nil _ _ _ _, ⟨r, 0, hq1, rfl⟩, chg_alloc hch⟩
        · have k4b : (kind == 4) = false := by simp [k4]
          rw [show step kind n l q c g = ⟨[], 0, 0, q, c, g⟩ by simp [step, k1, k2, k3, k4]]
          clear k1 k2 k3 k4
          go_enter Try.func23, Try.ntmps23
          go_wp2
          go_ret3
          exact ⟨_, rfl, World.ownsRow_nil _ _ _ _, H.out, (Chg.refl _ _).alloc _⟩
end Go.Proofs.Ytinabbdecmjcpaa.Queue

namespace Go.Proofs.Ytinabbdecmjcpaa.Queue
open Go.RowKit Go.Proofs.Ytinabbdecmjcpaa Go.Proofs.Ytinabbdecmjcpaa.Plain Go.Proofs.Ytinabbdecmjcpaa.Words Go.Proofs.Ytinabbdecmjcpaa.Hex
set_option linter.unusedVariables false

set_option maxRecDepth 100000 in
theorem awake25 (w : World) : Calls Try.prog 21 #[] w fun e w' => e = .returned (.bool true) ∧ Below w.heap.size w w' := by
  have kc := fun (w : World) (C : Array Value) (n c : Nat) => Lib.run_convert_bytes_const (P := Try.prog) w 22 5 C n c Try.underlying22 Try.underlying5
  go_enter Try.func21, Try.ntmps21
  go_wp2_with fail
  refine (new_any w).mono ?_
  rintro e w1 ⟨rfl, hq, hb1⟩
  have HQ := Lib.hid hq
  clear hq
  go_wp2_with fail
  have s1 := hb1.size
  have hlt := HQ.out.lt
  have ba : Below w1.heap.size w1 (w1.alloc (.cells #[.int .u8 120, .int .u8 121, .int .u8 122] 5 (3, 4))) := (Below.refl _ _).alloc (Nat.le_refl _) _
  have hrow : BRow (w1.alloc (.cells #[.int .u8 120, .int .u8 121, .int .u8 122] 5 (3, 4))) (.slice (some ⟨w1.heap.size, 0, none⟩) 3 3) [120, 121, 122] := by
    refine .inr ⟨w1.heap.size, 0, 3, rfl, by simp, fun i hi => ?_⟩
    rw [Nat.zero_add, World.cell?_alloc_mark]
    match i, hi with
    | 0, _ => rfl
    | 1, _ => rfl
    | 2, _ => rfl
  refine (push_ok (HQ.out.below ba) [120, 121, 122] _ hrow (fun g o len cap e _ => by cases e; omega) (by decide) (by omega) (by omega)).mono ?_
  rintro e w2 ⟨rfl, hq2, hch2⟩
  have HQ2 := Lib.hid hq2
  clear hq2 hrow
  go_wp2_with fail
  refine (pop_any HQ2.out 2 (by omega) (by omega)).mono ?_
  rintro e w3 ⟨v, rfl, hby, hq3, hch3⟩
  have e0 : qs (putR (fun _ => (0 : UInt8)) 0 0 ([120, 121, 122] : List UInt8) 3) 0 (took (2 : Int) 3) = [120, 121] := by decide
  have hby : Bys w3 w2.heap.size v [120, 121] := by rw [← e0]; exact hby
  clear e0
  obtain ⟨g, o, cap, rfl, hg, hc⟩ : ∃ g o cap, v = .slice (some ⟨g, o, none⟩) 2 cap ∧ g < w3.heap.size ∧ ∀ i (h : i < [120, 121].length), w3.cell? ⟨g, o + i, none⟩ = some (bv ([120, 121] : List UInt8)[i]) := by
    rcases bys_row hby with ⟨h, _⟩ | h
    · cases h
    · exact h
  have hcv : (convert 22 9 (.slice (some ⟨g, o, none⟩) 2 cap)).run Try.prog w3 = .ok (.string ⟨#[120, 121]⟩) w3 :=
    run_convert_bytes_back (P := Try.prog) w3 22 9 5 ⟨g, o, none⟩ cap [120, 121] Try.underlying22 Try.underlying5 Try.underlying9 (fun j hj => by rw [addr_add]; exact hc j hj)
  have HQ3 := Lib.hid hq3
  clear hq3 hby hc
  go_wp2_with (first | (go_at_call 25; refine (len_any HQ3.out).mono ?_; rintro e w' ⟨rfl, rfl⟩) | (go_at_call 26; refine (room_any HQ3.out).mono ?_; rintro e w' ⟨rfl, rfl⟩))
  go_ret
  have bb : Below w.heap.size w w3 := ((hb1.alloc s1 _).trans (hch2.below (by simp; omega) (by simp))).trans (hch3.below (by have := hch2.size; simp at this; omega) (by simp))
  exact ⟨rfl, bb⟩
end Go.Proofs.Ytinabbdecmjcpaa.Queue

namespace Go.Proofs.Ytinabbdecmjcpaa.Queue
open Go.RowKit Go.Proofs.Ytinabbdecmjcpaa Go.Proofs.Ytinabbdecmjcpaa.Plain Go.Proofs.Ytinabbdecmjcpaa.Words Go.Proofs.Ytinabbdecmjcpaa.Hex
open Go.ChangeShapes Go.WideShapes Go.ChangeAt Go.Deep
set_option linter.unusedVariables false

/-- A slice of bytes, with what is known of its room. -/
def CRow (w : World) (v : Value) (l : List UInt8) : Prop :=
  (l = [] ∧ ∃ a cap, v = .slice a 0 cap ∧ (a = none → cap = 0) ∧ cap ≤ maxLen) ∨
  (∃ g o cap, v = .slice (some ⟨g, o, none⟩) l.length cap ∧ 0 < l.length ∧ l.length ≤ cap ∧ cap ≤ maxLen ∧ g < w.heap.size ∧ ∀ i (h : i < l.length), w.cell? ⟨g, o + i, none⟩ = some (bv l[i]))
theorem CRow.row {w : World} {v : Value} {l : List UInt8} (h : CRow w v l) : BRow w v l := by
  rcases h with ⟨rfl, a, cap, rfl, _⟩ | ⟨g, o, cap, rfl, _, _, _, hg, hc⟩
  · exact .inl ⟨rfl, a, cap, rfl⟩
  · exact .inr ⟨g, o, cap, rfl, hg, hc⟩
theorem crow_chg {w w' : World} {v : Value} {l : List UInt8} {bs : List Nat} (h : CRow w v l) (hc : Chg bs w w') (ho : ∀ b ∈ bs, Off v b) : CRow w' v l := by
  rcases h with h | ⟨g, o, cap, rfl, h0, h1, h2, hg, hcl⟩
  · exact .inl h
  · exact .inr ⟨g, o, cap, rfl, h0, h1, h2, Nat.lt_of_lt_of_le hg hc.size, fun i hi => (hc.cell (p := ⟨g, o + i, none⟩) hg (fun hb => ho g hb g o _ cap rfl h0 rfl)).trans (hcl i hi)⟩
theorem crow_below {w w' : World} {v : Value} {l : List UInt8} (h : CRow w v l) (hb : Below w.heap.size w w') : CRow w' v l := crow_chg h (Chg.of_below (bs := []) hb) (by simp)
theorem brow_chg {w w' : World} {v : Value} {l : List UInt8} {bs : List Nat} (h : BRow w v l) (hc : Chg bs w w') (ho : ∀ b ∈ bs, Off v b) : BRow w' v l := by
  rcases h with h | ⟨g, o, cap, rfl, hg, hcl⟩
  · exact .inl h
  · exact .inr ⟨g, o, cap, rfl, Nat.lt_of_lt_of_le hg hc.size, fun i hi => (hc.cell (p := ⟨g, o + i, none⟩) hg (fun hb => ho g hb g o _ cap rfl (by omega) rfl)).trans (hcl i hi)⟩
theorem bys_crow {w : World} {B : Nat} {v : Value} {l : List UInt8} (h : Bys w B v l) : CRow w v l := by
  have h' := h
  obtain ⟨h1, h2⟩ := h
  rcases h2 with ⟨rfl, h0⟩ | ⟨g, cap, cur, rfl, hB, hc, hn, hcap, hcz, ht⟩
  · exact .inl ⟨List.length_eq_zero_iff.1 h0, none, 0, rfl, fun _ => rfl, Nat.zero_le _⟩
  · by_cases h0 : l.length = 0
    · exact .inl ⟨List.length_eq_zero_iff.1 h0, some ⟨g, 0, none⟩, cap, by rw [h0], (fun h => by cases h), hcap⟩
    · refine .inr ⟨g, 0, cap, rfl, by omega, hn, hcap, lt_of_block hc, fun i hi => ?_⟩
      have := World.ownsRow.cellAt h' i (by simpa using hi)
      rw [Nat.zero_add]
      rw [this]
      simp [hi]
theorem crow_form {w : World} {v : Value} {l : List UInt8} (h : CRow w v l) : ∃ a cap, v = .slice a l.length cap := brow_form h.row
/-- Where a row lies. -/
theorem bys_off {w : World} {B b : Nat} {v : Value} {l : List UInt8} (h : Bys w B v l) (hb : b < B) : Off v b := by
  intro g o len cap e hl hg
  rcases h.2 with ⟨rfl, _⟩ | ⟨g', cap', cur, rfl, hB, _⟩
  · cases e
  · cases e; omega

/-- One step of a list that lies at an address. -/
structure StepAt (w : World) (g o i : Nat) (k n : Int) (v : Value) (l : List UInt8) : Prop where
  c0 : w.cell? ⟨g, o + i * 3, none⟩ = some (.int .i64 k)
  c1 : w.cell? ⟨g, o + i * 3 + 1, none⟩ = some (.int .i64 n)
  c2 : w.cell? ⟨g, o + i * 3 + 2, none⟩ = some v
  k0 : -9223372036854775808 ≤ k
  k1 : k ≤ 9223372036854775807
  n0 : -9223372036854775808 ≤ n
  n1 : n ≤ 9223372036854775807
  row : CRow w v l
  len : l.length ≤ maxLen
  off : ∀ b, w.heap.size ≤ b → Off v b

/-- A list of steps. -/
def Steps (w : World) (v : Value) (len : Nat) : Prop :=
  (len = 0 ∧ ∃ a cap, v = .slice a 0 cap) ∨ (∃ g o cap, v = .slice (some ⟨g, o, none⟩) len cap ∧ 0 < len ∧ len ≤ maxLen ∧ g < w.heap.size ∧ ∀ i, i < len → ∃ k n dv l, StepAt w g o i k n dv l)

theorem off_old {w : World} {v : Value} {l : List UInt8} (h : CRow w v l) (b : Nat) (hb : w.heap.size ≤ b) : Off v b := by
  intro g o len cap e hl
  rcases h with ⟨_, a, cap', rfl, _⟩ | ⟨g', o', cap', rfl, _, _, _, hg, _⟩
  · cases e; omega
  · cases e; omega

theorem list3 {α : Type} {l : List α} (h : l.length = 3) : ∃ a b c, l = [a, b, c] := by
  match l, h with
  | [a, b, c], _ => exact ⟨a, b, c, rfl⟩

section
variable {H : Type} {enc : TypeId × Value → H} {W : World} {base : Nat} {spare : Nat → Bool} {held : Bool}
/-- A slice of bytes, read. -/
theorem open_bytes {fuel : Nat} {v : Value} {x : DataW H × List MemPlace} (h : DataW.trod enc Try.prog W base spare held fuel 22 [v] = some x) : ∃ l : List UInt8, CRow W v l ∧ l.length ≤ maxLen := by
  rcases open_ints Try.underlying22 Try.underlying5 (by kernel_rfl) h with ⟨hcs, _⟩ | ⟨a, len, cap, zs, hcs, _, hl, hm, hz, _, hcell, hwf⟩
  · cases hcs
    exact ⟨[], .inl ⟨rfl, none, 0, rfl, fun _ => rfl, Nat.zero_le _⟩, Nat.zero_le _⟩
  · cases hcs
    by_cases h0 : len = 0
    · subst h0
      exact ⟨[], .inl ⟨rfl, some a, cap, rfl, (fun h => by cases h), hm⟩, Nat.zero_le _⟩
    · obtain ⟨b, off, spot⟩ := a
      have hlz : len ≤ zs.length := by
        have : len ≤ (if spare b then cap else len) := by split <;> omega
        rw [hz]; exact this
      have hc0 := hcell 0 (by omega)
      have hspot : spot = none := by simpa [Addr.add] using World.cell?_spot hc0
      subst hspot
      refine ⟨(zs.take len).map fun z => UInt8.ofNat z.toNat, .inr ⟨b, off, cap, by simp; omega, by simp; omega, by simp; omega, hm, by have := World.block_lt_of_cell? _ _ hc0; simpa [Addr.add] using this, fun i hi => ?_⟩, by simp; omega⟩
      have hi' : i < len := by simp at hi; omega
      have hiz : i < zs.length := by omega
      have h1 := hcell i hiz
      rw [addr_add] at h1
      rw [h1]
      have hmem : zs.getD i 0 ∈ zs := by rw [List.getD_eq_getElem?_getD, List.getElem?_eq_getElem hiz]; exact List.getElem_mem hiz
      obtain ⟨q0, q1⟩ := bounds_u8 (hwf _ hmem)
      have e : zs.getD i 0 = zs[i] := by rw [List.getD_eq_getElem?_getD, List.getElem?_eq_getElem hiz]; rfl
      rw [e] at q0 q1 ⊢
      simp [bv, UInt8.toNat_ofNat']
      omega

theorem open_steps {T E : TypeId} {f0 f1 f2 : Field} (hT : Try.prog.underlying T = some (.slice E)) (hE : Try.prog.underlying E = some (.struct #[f0, f1, f2])) (hC : Try.prog.cellsOf E = 3)
    (t0 : f0.type = 3) (t1 : f1.type = 3) (t2 : f2.type = 22) (o0 : f0.offset = 0) (o1 : f1.offset = 1) (o2 : f2.offset = 2)
    {v : Value} {d : DataW H} {p : List MemPlace} (hv : ∃ a len cap, v = .slice a len cap) (h : DataW.Trod enc Try.prog W base spare held T v d p) : ∃ len, Steps W v len ∧ len ≤ maxLen ∧ ∃ a cap, v = .slice a len cap := by
  obtain ⟨a0, len0, cap0, rfl⟩ := hv
  obtain ⟨fuel, hf⟩ := h
  rcases open_slice hT hf with ⟨hcs, _⟩ | ⟨a, len, cap, m, n, D, Pl, hcs, _, hl, hm, hmm, _, hel⟩
  · simp [Value.cells] at hcs
    obtain ⟨rfl, rfl, rfl⟩ := hcs
    exact ⟨0, .inl ⟨rfl, _, _, rfl⟩, Nat.zero_le _, _, _, rfl⟩
  · simp [Value.cells] at hcs
    obtain ⟨rfl, rfl, rfl⟩ := hcs
    have hlm : len0 ≤ m := by rw [hmm]; split <;> omega
    refine ⟨len0, ?_, by omega, _, _, rfl⟩
    by_cases h0 : len0 = 0
    · exact .inl ⟨h0, _, _, by rw [h0]⟩
    obtain ⟨g, o, spot⟩ := a
    have key : ∀ i, i < len0 → ∃ k n dv l, (W.cell? ((⟨g, o, spot⟩ : Addr).add (i * 3)) = some (.int .i64 k)) ∧ (W.cell? (((⟨g, o, spot⟩ : Addr).add (i * 3)).add 1) = some (.int .i64 n)) ∧ (W.cell? (((⟨g, o, spot⟩ : Addr).add (i * 3)).add 2) = some dv) ∧ (Lit.int .i64 k).wf = true ∧ (Lit.int .i64 n).wf = true ∧ CRow W dv l ∧ l.length ≤ maxLen := by
      intro i hi
      obtain ⟨cs', hc, ht'⟩ := hel i (by omega)
      rw [hC] at hc
      obtain ⟨xs, n', _, _, hlen, hxl, hf'⟩ := DataW.trod_struct hE ht'
      obtain ⟨_, hcl, hat⟩ := World.cells?_some hc
      have g0 := hf' 0 f0 rfl
      have g1 := hf' 1 f1 rfl
      have g2 := hf' 2 f2 rfl
      rw [t0, o0, show Try.prog.cellsOf 3 = 1 by kernel_rfl] at g0
      rw [t1, o1, show Try.prog.cellsOf 3 = 1 by kernel_rfl] at g1
      rw [t2, o2, show Try.prog.cellsOf 22 = 1 by kernel_rfl] at g2
      obtain ⟨c0, c1, c2, rfl⟩ := list3 hcl
      obtain ⟨x0, x1, x2, rfl⟩ := list3 hxl
      · obtain ⟨k, e0, _, wk⟩ := DataW.trod_int Try.underlying3 (show DataW.trod enc Try.prog W base spare held n' 3 [c0] = some x0 from g0)
        obtain ⟨nn, e1, _, wn⟩ := DataW.trod_int Try.underlying3 (show DataW.trod enc Try.prog W base spare held n' 3 [c1] = some x1 from g1)
        obtain ⟨l, hrow, hlen'⟩ := open_bytes (show DataW.trod enc Try.prog W base spare held n' 22 [c2] = some x2 from g2)
        simp at e0 e1
        subst e0 e1
        exact ⟨k, nn, c2, l, by simpa [Addr.add] using hat 0 (by omega), hat 1 (by omega), hat 2 (by omega), wk, wn, hrow, hlen'⟩
    obtain ⟨k, n, dv, l, a0, _⟩ := key 0 (by omega)
    have hspot : spot = none := by simpa [Addr.add] using World.cell?_spot a0
    subst hspot
    refine .inr ⟨g, o, cap0, rfl, by omega, by omega, by have := World.block_lt_of_cell? _ _ a0; simpa [Addr.add] using this, fun i hi => ?_⟩
    obtain ⟨k, n, dv, l, b0, b1, b2, wk, wn, hrow, hl'⟩ := key i hi
    rw [addr_add] at b0 b1 b2
    rw [addr_add] at b1 b2
    obtain ⟨p0, p1⟩ := bounds_i64 wk
    obtain ⟨q0, q1⟩ := bounds_i64 wn
    exact ⟨k, n, dv, l, b0, b1, b2, p0, p1, q0, q1, hrow, hl', fun b hb => off_old hrow b hb⟩
end
end Go.Proofs.Ytinabbdecmjcpaa.Queue
