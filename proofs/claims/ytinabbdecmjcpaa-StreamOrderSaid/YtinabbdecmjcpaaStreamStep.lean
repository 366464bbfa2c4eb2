/- The contract of the law's do of layer 26 at a stream that is there: a step on two lists of bytes, a window and an end. -/
import Derived.Test.YtinabbdecmjcpaaStreamRef
namespace Go.Proofs.Ytinabbdecmjcpaa.Stream
open Go.RowKit Go.Proofs.Ytinabbdecmjcpaa Go.Proofs.Ytinabbdecmjcpaa.Plain Go.Proofs.Ytinabbdecmjcpaa.Words Go.Proofs.Ytinabbdecmjcpaa.Named Go.Proofs.Ytinabbdecmjcpaa.Hex Go.Proofs.Ytinabbdecmjcpaa.Queue
set_option linter.unusedVariables false

/-- A stream, plainly. -/
structure SS where
  up : List UInt8
  dn : List UInt8
  c0 : Int
  g0 : Int
  c1 : Int
  g1 : Int
  cr : Int
  en : Bool
/-- What a step tells, and leaves. -/
structure ST where
  out : List UInt8
  err : Int
  st : SS

def sstep (k n : Int) (l : List UInt8) (t : SS) : ST :=
  if k = 1 then (if 64 < t.up.length + l.length then ⟨[], 15, t⟩ else ⟨[], 0, { t with up := t.up ++ l, c0 := t.c0 + l.length }⟩)
  else if k = 2 then (if t.en = true then ⟨[], 12, t⟩ else if 64 < t.dn.length + l.length then ⟨[], 15, t⟩ else ⟨[], 0, { t with dn := t.dn ++ l, c1 := t.c1 + l.length }⟩)
  else if k = 3 then (if n < 1 ∨ 1048576 < n ∨ 1048576 - n < t.cr then ⟨[], 6, t⟩ else ⟨[], 0, { t with cr := t.cr + n }⟩)
  else if k = 4 then (if t.en = true then ⟨[], 12, t⟩ else ⟨[], 0, { t with en := true }⟩)
  else if k = 5 then ⟨t.up.take (took n (min t.up.length 16)), 0, { t with up := t.up.drop (took n (min t.up.length 16)), g0 := t.g0 + (took n (min t.up.length 16) : Nat) }⟩
  else if k = 6 then ⟨t.dn.take (took n (min (min t.dn.length 16) t.cr.toNat)), 0, { t with dn := t.dn.drop (took n (min (min t.dn.length 16) t.cr.toNat)), g1 := t.g1 + (took n (min (min t.dn.length 16) t.cr.toNat) : Nat), cr := t.cr - (took n (min (min t.dn.length 16) t.cr.toNat) : Nat) }⟩
  else ⟨[], 0, t⟩

/-- A stream in memory. -/
def SIs (w : World) (s b0 b1 : Nat) (tgt : ByteArray) (t : SS) : Prop := SAt w s b0 b1 tgt t.up t.dn t.c0 t.g0 t.c1 t.g1 t.cr t.en

def DoPost (s b0 b1 : Nat) (tgt : ByteArray) (t : ST) (w : World) (e : Ending) (w' : World) : Prop :=
  ∃ v, e = .returned (.tuple #[v, .int .i64 t.err]) ∧ Bys w' w.heap.size v t.out ∧ SIs w' s b0 b1 tgt t.st ∧ Chg [s, b0, b1] w w'

theorem chg_boxed {w w1 : World} {o : Obj} {bs : List Nat} (h : Chg bs (w.alloc o) w1) : Chg bs w w1 := (Chg.of_below ((Below.refl _ _).alloc (Nat.le_refl _) o)).trans h
theorem bys_boxed {w w1 : World} {o : Obj} {v : Value} {l : List UInt8} (h : Bys w1 (w.alloc o).heap.size v l) : Bys w1 w.heap.size v l := by
  obtain ⟨h1, h2⟩ := h
  refine ⟨h1, ?_⟩
  rcases h2 with h2 | ⟨g, cap, cur, a, b, c⟩
  · exact .inl h2
  · exact .inr ⟨g, cap, cur, a, by simp at b; omega, c⟩

section
variable {w : World} {s b0 b1 : Nat} {tgt : ByteArray} {t : SS}
theorem do_same (k n : Int) (v : Value) (h : SIs w s b0 b1 tgt t) (hv : ∃ a len cap, v = .slice a len cap) (hk : k ≠ 1 ∧ k ≠ 2 ∧ k ≠ 3 ∧ k ≠ 4 ∧ k ≠ 5 ∧ k ≠ 6) : Calls Try.prog 34 #[.pointer (some ⟨s, 0, none⟩), .agg #[.int .i64 k, .int .i64 n, v]] w (DoPost s b0 b1 tgt ⟨[], 0, t⟩ w) := by
  obtain ⟨a, len, cap, rfl⟩ := hv
  obtain ⟨h1, h2, h3, h4, h5, h6⟩ := hk
  have H := Lib.hid h
  have b1 : (k == 1) = false := by simp [h1]
  have b2 : (k == 2) = false := by simp [h2]
  have b3 : (k == 3) = false := by simp [h3]
  have b4 : (k == 4) = false := by simp [h4]
  have b5 : (k == 5) = false := by simp [h5]
  have b6 : (k == 6) = false := by simp [h6]
  clear h1 h2 h3 h4 h5 h6 h
  go_enter Try.func34, Try.ntmps34
  go_wp2
  go_ret2
  exact ⟨_, rfl, World.ownsRow_nil _ _ _ _, H.out.below ((Below.refl _ _).alloc (Nat.le_refl _) _), (Chg.refl _ _).alloc _⟩

set_option maxHeartbeats 1000000 in
theorem do1 (n : Int) (l : List UInt8) (v : Value) (h : SIs w s b0 b1 tgt t) (hv : CRow w v l) (ho : Off v b0) (hc0 : 0 ≤ t.c0) (hc1 : t.c0 ≤ 1000000000) : Calls Try.prog 34 #[.pointer (some ⟨s, 0, none⟩), .agg #[.int .i64 1, .int .i64 n, v]] w (DoPost s b0 b1 tgt (sstep 1 n l t) w) := by
  obtain ⟨a, cap, rfl⟩ := crow_form hv
  have ba : Below w.heap.size w (w.alloc (.cells #[.int .i64 1, .int .i64 n, .slice a l.length cap] 60)) := (Below.refl _ _).alloc (Nat.le_refl _) _
  have h' : SAt (w.alloc (.cells #[.int .i64 1, .int .i64 n, .slice a l.length cap] 60)) s b0 b1 tgt t.up t.dn t.c0 t.g0 t.c1 t.g1 t.cr t.en := h.below ba
  by_cases hf : 64 < t.up.length + l.length
  · have e : sstep 1 n l t = ⟨[], 15, t⟩ := by simp [sstep, hf]
    rw [e]
    have HP := Lib.hid (up_full h' a l.length cap hf)
    have HS := Lib.hid h'
    clear h h' hv ho hf e ba
    go_enter Try.func34, Try.ntmps34
    go_wp2_with (go_at_call 58; refine HP.out.mono ?_; rintro e w' ⟨rfl, rfl⟩)
    go_ret2
    exact ⟨_, rfl, World.ownsRow_nil _ _ _ _, HS.out, chg_boxed (Chg.refl _ _)⟩
  · have e : sstep 1 n l t = ⟨[], 0, { t with up := t.up ++ l, c0 := t.c0 + l.length }⟩ := by simp [sstep, hf]
    rw [e]
    have HP := Lib.hid (up_ok h' l _ (crow_below hv ba).row ho (by omega) hc0 hc1)
    clear h h' hv ho hf e ba
    go_enter Try.func34, Try.ntmps34
    go_wp2_with (go_at_call 58; refine HP.out.mono ?_; rintro e w1 ⟨rfl, hs1, hch1⟩)
    go_ret2
    exact ⟨_, rfl, World.ownsRow_nil _ _ _ _, hs1, chg_boxed (hch1.mono (by simp))⟩

set_option maxHeartbeats 1000000 in
theorem do2 (n : Int) (l : List UInt8) (v : Value) (h : SIs w s b0 b1 tgt t) (hv : CRow w v l) (ho : Off v b1) (hc0 : 0 ≤ t.c1) (hc1 : t.c1 ≤ 1000000000) : Calls Try.prog 34 #[.pointer (some ⟨s, 0, none⟩), .agg #[.int .i64 2, .int .i64 n, v]] w (DoPost s b0 b1 tgt (sstep 2 n l t) w) := by
  obtain ⟨a, cap, rfl⟩ := crow_form hv
  have ba : Below w.heap.size w (w.alloc (.cells #[.int .i64 2, .int .i64 n, .slice a l.length cap] 60)) := (Below.refl _ _).alloc (Nat.le_refl _) _
  have h' : SAt (w.alloc (.cells #[.int .i64 2, .int .i64 n, .slice a l.length cap] 60)) s b0 b1 tgt t.up t.dn t.c0 t.g0 t.c1 t.g1 t.cr t.en := h.below ba
  have HS := Lib.hid h'
  by_cases he : t.en = true
  · have e : sstep 2 n l t = ⟨[], 12, t⟩ := by simp [sstep, he]
    rw [e]
    rw [he] at h'
    have HP := Lib.hid (down_end h' (.slice a l.length cap))
    clear h h' hv ho he e ba
    go_enter Try.func34, Try.ntmps34
    go_wp2_with (go_at_call 61; refine HP.out.mono ?_; rintro e w' ⟨rfl, rfl⟩)
    go_ret2
    exact ⟨_, rfl, World.ownsRow_nil _ _ _ _, HS.out, chg_boxed (Chg.refl _ _)⟩
  · have he' : t.en = false := by simpa using he
    by_cases hf : 64 < t.dn.length + l.length
    · have e : sstep 2 n l t = ⟨[], 15, t⟩ := by simp [sstep, hf, he']
      rw [e]
      rw [he'] at h'
      have HP := Lib.hid (down_full h' a l.length cap hf)
      clear h h' hv ho hf e ba he he'
      go_enter Try.func34, Try.ntmps34
      go_wp2_with (go_at_call 61; refine HP.out.mono ?_; rintro e w' ⟨rfl, rfl⟩)
      go_ret2
      exact ⟨_, rfl, World.ownsRow_nil _ _ _ _, HS.out, chg_boxed (Chg.refl _ _)⟩
    · have e : sstep 2 n l t = ⟨[], 0, { t with dn := t.dn ++ l, c1 := t.c1 + l.length }⟩ := by simp [sstep, hf, he']
      rw [e]
      rw [he'] at h'
      have HP := Lib.hid (down_ok h' l _ (crow_below hv ba).row ho (by omega) hc0 hc1)
      have HE := Lib.hid he'
      clear h h' hv ho hf e ba he he' HS
      go_enter Try.func34, Try.ntmps34
      go_wp2_with (go_at_call 61; refine HP.out.mono ?_; rintro e w1 ⟨rfl, hs1, hch1⟩)
      go_ret2
      refine ⟨_, rfl, World.ownsRow_nil _ _ _ _, ?_, chg_boxed (hch1.mono (by simp))⟩
      unfold SIs
      rw [HE.out]
      exact hs1

set_option maxHeartbeats 1000000 in
theorem do3 (n : Int) (l : List UInt8) (v : Value) (h : SIs w s b0 b1 tgt t) (hv : ∃ a len cap, v = .slice a len cap) : Calls Try.prog 34 #[.pointer (some ⟨s, 0, none⟩), .agg #[.int .i64 3, .int .i64 n, v]] w (DoPost s b0 b1 tgt (sstep 3 n l t) w) := by
  obtain ⟨a, len, cap, rfl⟩ := hv
  have ba : Below w.heap.size w (w.alloc (.cells #[.int .i64 3, .int .i64 n, .slice a len cap] 60)) := (Below.refl _ _).alloc (Nat.le_refl _) _
  have h' : SAt (w.alloc (.cells #[.int .i64 3, .int .i64 n, .slice a len cap] 60)) s b0 b1 tgt t.up t.dn t.c0 t.g0 t.c1 t.g1 t.cr t.en := h.below ba
  have HS := Lib.hid h'
  by_cases hf : n < 1 ∨ 1048576 < n ∨ 1048576 - n < t.cr
  · have e : sstep 3 n l t = ⟨[], 6, t⟩ := by simp [sstep, hf]
    rw [e]
    have HP := Lib.hid (grant_at_no h' n hf)
    clear h h' hf e ba
    go_enter Try.func34, Try.ntmps34
    go_wp2_with (go_at_call 62; refine HP.out.mono ?_; rintro e w1 ⟨rfl, hb1⟩)
    go_ret2
    exact ⟨_, rfl, World.ownsRow_nil _ _ _ _, HS.out.below hb1, chg_boxed (Chg.of_below hb1)⟩
  · have e : sstep 3 n l t = ⟨[], 0, { t with cr := t.cr + n }⟩ := by simp [sstep, hf]
    rw [e]
    have HP := Lib.hid (grant_at_ok h' n (by omega) (by omega) (by omega))
    clear h h' hf e ba
    go_enter Try.func34, Try.ntmps34
    go_wp2_with (go_at_call 62; refine HP.out.mono ?_; rintro e w1 ⟨rfl, hs1, hch1⟩)
    go_ret2
    exact ⟨_, rfl, World.ownsRow_nil _ _ _ _, hs1, chg_boxed (hch1.mono (by simp))⟩

set_option maxHeartbeats 1000000 in
theorem do4 (n : Int) (l : List UInt8) (v : Value) (h : SIs w s b0 b1 tgt t) (hv : ∃ a len cap, v = .slice a len cap) : Calls Try.prog 34 #[.pointer (some ⟨s, 0, none⟩), .agg #[.int .i64 4, .int .i64 n, v]] w (DoPost s b0 b1 tgt (sstep 4 n l t) w) := by
  obtain ⟨a, len, cap, rfl⟩ := hv
  have ba : Below w.heap.size w (w.alloc (.cells #[.int .i64 4, .int .i64 n, .slice a len cap] 60)) := (Below.refl _ _).alloc (Nat.le_refl _) _
  have h' : SAt (w.alloc (.cells #[.int .i64 4, .int .i64 n, .slice a len cap] 60)) s b0 b1 tgt t.up t.dn t.c0 t.g0 t.c1 t.g1 t.cr t.en := h.below ba
  have HS := Lib.hid h'
  by_cases he : t.en = true
  · have e : sstep 4 n l t = ⟨[], 12, t⟩ := by simp [sstep, he]
    rw [e]
    rw [he] at h'
    have HP := Lib.hid (end_no h')
    clear h h' he e ba
    go_enter Try.func34, Try.ntmps34
    go_wp2_with (go_at_call 63; refine HP.out.mono ?_; rintro e w1 ⟨rfl, rfl⟩)
    go_ret2
    exact ⟨_, rfl, World.ownsRow_nil _ _ _ _, HS.out, chg_boxed (Chg.refl _ _)⟩
  · have he' : t.en = false := by simpa using he
    have e : sstep 4 n l t = ⟨[], 0, { t with en := true }⟩ := by simp [sstep, he']
    rw [e]
    rw [he'] at h'
    have HP := Lib.hid (end_ok h')
    clear h h' he he' e ba HS
    go_enter Try.func34, Try.ntmps34
    go_wp2_with (go_at_call 63; refine HP.out.mono ?_; rintro e w1 ⟨rfl, hs1, hch1⟩)
    go_ret2
    exact ⟨_, rfl, World.ownsRow_nil _ _ _ _, hs1, chg_boxed (hch1.mono (by simp))⟩

set_option maxHeartbeats 1000000 in
theorem do5 (n : Int) (l : List UInt8) (v : Value) (h : SIs w s b0 b1 tgt t) (hv : ∃ a len cap, v = .slice a len cap) (hg0 : 0 ≤ t.g0) (hg1 : t.g0 ≤ 1000000000) : Calls Try.prog 34 #[.pointer (some ⟨s, 0, none⟩), .agg #[.int .i64 5, .int .i64 n, v]] w (DoPost s b0 b1 tgt (sstep 5 n l t) w) := by
  obtain ⟨a, len, cap, rfl⟩ := hv
  have ba : Below w.heap.size w (w.alloc (.cells #[.int .i64 5, .int .i64 n, .slice a len cap] 60)) := (Below.refl _ _).alloc (Nat.le_refl _) _
  have h' : SAt (w.alloc (.cells #[.int .i64 5, .int .i64 n, .slice a len cap] 60)) s b0 b1 tgt t.up t.dn t.c0 t.g0 t.c1 t.g1 t.cr t.en := h.below ba
  have HP := Lib.hid (move0 h' n hg0 hg1)
  have e : sstep 5 n l t = ⟨t.up.take (took n (min t.up.length 16)), 0, { t with up := t.up.drop (took n (min t.up.length 16)), g0 := t.g0 + (took n (min t.up.length 16) : Nat) }⟩ := by simp [sstep]
  rw [e]
  generalize took n (min t.up.length 16) = m at *
  clear h h' e ba
  go_enter Try.func34, Try.ntmps34
  go_wp2_with (go_at_call 59; refine HP.out.mono ?_; rintro e w1 ⟨v1, rfl, hb1, hs1, hch1⟩)
  go_ret2
  exact ⟨_, rfl, bys_boxed hb1, hs1, chg_boxed (hch1.mono (by simp))⟩

set_option maxHeartbeats 1000000 in
theorem do6 (n : Int) (l : List UInt8) (v : Value) (h : SIs w s b0 b1 tgt t) (hv : ∃ a len cap, v = .slice a len cap) (hg0 : 0 ≤ t.g1) (hg1 : t.g1 ≤ 1000000000) : Calls Try.prog 34 #[.pointer (some ⟨s, 0, none⟩), .agg #[.int .i64 6, .int .i64 n, v]] w (DoPost s b0 b1 tgt (sstep 6 n l t) w) := by
  obtain ⟨a, len, cap, rfl⟩ := hv
  have ba : Below w.heap.size w (w.alloc (.cells #[.int .i64 6, .int .i64 n, .slice a len cap] 60)) := (Below.refl _ _).alloc (Nat.le_refl _) _
  have h' : SAt (w.alloc (.cells #[.int .i64 6, .int .i64 n, .slice a len cap] 60)) s b0 b1 tgt t.up t.dn t.c0 t.g0 t.c1 t.g1 t.cr t.en := h.below ba
  have HP := Lib.hid (move1 h' n hg0 hg1)
  have e : sstep 6 n l t = ⟨t.dn.take (took n (min (min t.dn.length 16) t.cr.toNat)), 0, { t with dn := t.dn.drop (took n (min (min t.dn.length 16) t.cr.toNat)), g1 := t.g1 + (took n (min (min t.dn.length 16) t.cr.toNat) : Nat), cr := t.cr - (took n (min (min t.dn.length 16) t.cr.toNat) : Nat) }⟩ := by simp [sstep]
  rw [e]
  generalize took n (min (min t.dn.length 16) t.cr.toNat) = m at *
  clear h h' e ba
  go_enter Try.func34, Try.ntmps34
  go_wp2_with (go_at_call 59; refine HP.out.mono ?_; rintro e w1 ⟨v1, rfl, hb1, hs1, hch1⟩)
  go_ret2
  exact ⟨_, rfl, bys_boxed hb1, hs1, chg_boxed (hch1.mono (by simp))⟩

/-- A step, of any kind. -/
theorem do_at (k n : Int) (l : List UInt8) (v : Value) (h : SIs w s b0 b1 tgt t) (hv : CRow w v l) (ho0 : Off v b0) (ho1 : Off v b1) (hc0 : 0 ≤ t.c0) (hc1 : t.c0 ≤ 1000000000) (hd0 : 0 ≤ t.c1) (hd1 : t.c1 ≤ 1000000000) (hg0 : 0 ≤ t.g0) (hg1 : t.g0 ≤ 1000000000) (hh0 : 0 ≤ t.g1) (hh1 : t.g1 ≤ 1000000000) :
    Calls Try.prog 34 #[.pointer (some ⟨s, 0, none⟩), .agg #[.int .i64 k, .int .i64 n, v]] w (DoPost s b0 b1 tgt (sstep k n l t) w) := by
  have hf : ∃ a len cap, v = .slice a len cap := by obtain ⟨a, cap, e⟩ := crow_form hv; exact ⟨a, _, cap, e⟩
  by_cases k1 : k = 1
  · subst k1; exact do1 n l v h hv ho0 hc0 hc1
  by_cases k2 : k = 2
  · subst k2; exact do2 n l v h hv ho1 hd0 hd1
  by_cases k3 : k = 3
  · subst k3; exact do3 n l v h hf
  by_cases k4 : k = 4
  · subst k4; exact do4 n l v h hf
  by_cases k5 : k = 5
  · subst k5; exact do5 n l v h hf hg0 hg1
  by_cases k6 : k = 6
  · subst k6; exact do6 n l v h hf hh0 hh1
  have e : sstep k n l t = ⟨[], 0, t⟩ := by simp [sstep, k1, k2, k3, k4, k5, k6]
  rw [e]
  exact do_same k n v h hf ⟨k1, k2, k3, k4, k5, k6⟩
end

/-- One append of bytes, as a step of a region that draws, with where the new row lies. -/
theorem step_append_at {ops : Array Oper} {o : Oper} {a : Act} {K : Act → World → Prop} {Q : Exit → Act → World → Prop} {E : Prop} {w : World} (hgd : o.guard = none) (s x : Operand)
    (ho : o.op = .call { callee := .builtin .append, args := #[s, x], argTypes := #[22, 22] }) (base : Nat) (v xv : Value) (l l2 : List UInt8) (hs : a.eval s = v) (hx : a.eval x = xv) (hown : Bys w base v l) (hrow : CRow w xv l2)
    (hlen : l.length + l2.length ≤ 1000000) (hbase : base ≤ w.heap.size) (h : ∀ (a' : Option Addr) (cap' : Nat) w', Bys w' base (.slice a' (l.length + l2.length) cap') (l ++ l2) → w.grownBy w' v.ownBlock → ((Value.slice a' (l.length + l2.length) cap').ownBlock = v.ownBlock ∨ (Value.slice a' (l.length + l2.length) cap').ownBlock = some w.heap.size) → K (a.put o.dst (.slice a' (l.length + l2.length) cap')) w') :
    if Region.wanted o (yielded ops a.tmps) = true then Oper.wp Try.prog o a w K Q else E := by
  have hw : Region.wanted o (yielded ops a.tmps) = true := by simp [Region.wanted, hgd]
  rw [if_pos hw]
  obtain ⟨a', cap', w', hrun, h2, h3, h5⟩ := run_append_bytes o.type base v xv l l2 hown hrow hlen hbase
  unfold Oper.wp
  simp [execOp, ho, resolve, invoke, builtin, hs, hx, hrun, Result.andThen]
  exact h a' cap' w' h2 h3 h5
end Go.Proofs.Ytinabbdecmjcpaa.Stream
