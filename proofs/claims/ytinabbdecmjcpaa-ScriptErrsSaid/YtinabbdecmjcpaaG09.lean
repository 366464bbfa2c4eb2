/- Contracts of the reference of layer 25: Large, First, Do: a step on a list of bytes. The contract of the reference's Do of layer 25: a step on a list of bytes. The contract of the reference's Do of layer 25, all steps. One append of bytes onto a row of the call's own: a law for the walk, with where the new row lies. The contract of slices.Clone of bytes: a copy in new memory. -/
import Derived.Deep.RegionHeld3
import Derived.Deep.DeepCutAuto
import Derived.Deep.RegionLaw
import Derived.Maps.AppendAt
import Derived.WalkSpells
import Derived.Test.YtinabbdecmjcpaaG06
namespace Go.Proofs.Ytinabbdecmjcpaa.Queue
open Go.RowKit Go.Proofs.Ytinabbdecmjcpaa Go.Proofs.Ytinabbdecmjcpaa.Plain Go.Proofs.Ytinabbdecmjcpaa.Words Go.Proofs.Ytinabbdecmjcpaa.Hex
set_option linter.unusedVariables false

/-- What Large says: where it says no, there are few, and short ones. -/
def LargePost (v : Value) (len : Nat) (w : World) (e : Ending) (w' : World) : Prop :=
  ∃ b : Bool, e = .returned (.bool b) ∧ w = w' ∧ (b = false → len ≤ 100 ∧ ∀ g o cap, v = .slice (some ⟨g, o, none⟩) len cap → ∀ i, i < len → ∀ k n dv l, StepAt w g o i k n dv l → l.length ≤ 200)

theorem stepAt_len {w : World} {g o i : Nat} {k n k' n' : Int} {dv dv' : Value} {l l' : List UInt8} (h : StepAt w g o i k n dv l) (h' : StepAt w g o i k' n' dv' l') : l.length = l'.length := by
  have e : dv = dv' := by have := h.c2.symm.trans h'.c2; exact Option.some.inj this
  subst e
  obtain ⟨a, cap, e1⟩ := crow_form h.row
  obtain ⟨a', cap', e2⟩ := crow_form h'.row
  rw [e1] at e2
  simp only [Value.slice.injEq] at e2
  exact e2.2.1

set_option maxRecDepth 100000 in
set_option maxHeartbeats 1000000 in
theorem large_more {w : World} {len : Nat} (g o cap : Nat) (h0 : 0 < len) (hl : len ≤ maxLen) (hst : ∀ i, i < len → ∃ k n dv l, StepAt w g o i k n dv l) : Calls Try.prog 20 #[.slice (some ⟨g, o, none⟩) len cap] w (LargePost (.slice (some ⟨g, o, none⟩) len cap) len w) := by
  unfold maxLen at hl
  have HS := Lib.hid hst
  clear hst
  go_enter Try.func20, Try.ntmps20
  go_wp2
  go_loop [3] (fun i => ∃ k : Nat, k ≤ len ∧ k ≤ 100 ∧ i = .int .i64 k ∧ Hid (∀ j, j < k → ∀ kk n dv l, StepAt w g o j kk n dv l → l.length ≤ 200)) (fun i => 100 - (intOf i).toNat)
  case atStart => exact ⟨0, by omega, by omega, rfl, Lib.hid (fun j hj => absurd hj (by omega))⟩
  case round =>
    obtain ⟨k, hk, hk2, rfl, HK⟩ := hrel
    by_cases hlt : k < len
    · by_cases hlt2 : k < 100
      · obtain ⟨kk, n, dv, l, hs⟩ := HS.out k hlt
        obtain ⟨a, cap', hdv⟩ := crow_form hs.row
        have c2 := hs.c2
        have hll := hs.len
        unfold maxLen at hll
        have HST := Lib.hid hs
        rw [hdv] at c2
        clear hs hdv
        by_cases hbig : 200 < l.length
        · go_wp2_with fail
          go_ret
          exact ⟨true, rfl, rfl, fun h => by cases h⟩
        · go_wp2_with fail
          go_round
          case rel =>
            refine ⟨k + 1, by omega, by omega, by go_num, Lib.hid fun j hj kk' n' dv' l' hs' => ?_⟩
            by_cases e : j = k
            · subst e
              rw [← stepAt_len HST.out hs']
              omega
            · exact HK.out j (by omega) kk' n' dv' l' hs'
          case measure => simp [intOf]; omega
      · have hb : decide ((k : Int) < 100) = false := by simp; omega
        by_cases hbig : 100 < len
        · go_wp2_with fail
          go_ret
          exact ⟨_, rfl, rfl, fun h => by simp at h; omega⟩
        · omega
    · have hb : decide ((k : Int) < (len : Int)) = false := by simp; omega
      obtain rfl : k = len := by omega
      go_wp2_with fail
      go_ret
      refine ⟨_, rfl, rfl, fun h => ⟨by omega, fun g' o' cap' e i hi kk n dv l hs => ?_⟩⟩
      cases e
      exact HK.out i hi kk n dv l hs

theorem large_any {w : World} {v : Value} {len : Nat} (h : Steps w v len) : Calls Try.prog 20 #[v] w (LargePost v len w) := by
  rcases h with ⟨rfl, a, cap, rfl⟩ | ⟨g, o, cap, rfl, h0, hl, hg, hst⟩
  · go_enter Try.func20, Try.ntmps20
    go_wp2
    go_loop [3] (fun i => i = .int .i64 0) (fun i => 0)
    case atStart => rfl
    case round =>
      obtain rfl := hrel
      go_wp2_with fail
      go_ret
      exact ⟨_, rfl, rfl, fun h => ⟨by omega, fun g o cap' e i hi => absurd hi (by omega)⟩⟩
  · exact large_more g o cap h0 hl hst

theorem first_any (a : Option Addr) (len cap : Nat) (n : Int) (w : World) (hn : a = none → cap = 0) (hl : len ≤ cap) (hc : cap ≤ maxLen) : Calls Try.prog 56 #[.slice a len cap, .int .i64 n] w fun e w' => e = .returned (.slice a (took n len) cap) ∧ w = w' := by
  unfold maxLen at hc
  by_cases h0 : n < 0
  · have ht : took n len = 0 := by unfold took; omega
    rw [ht]
    clear ht
    cases a with
    | none =>
      obtain rfl := hn rfl
      obtain rfl : len = 0 := by omega
      go_enter Try.func56, Try.ntmps56
      go_wp2
      go_ret
      exact ⟨rfl, rfl⟩
    | some ad =>
      go_enter Try.func56, Try.ntmps56
      go_wp2
      go_ret
      exact ⟨rfl, rfl⟩
  · by_cases h1 : (len : Int) < n
    · have ht : took n len = len := by unfold took; omega
      rw [ht]
      clear ht
      cases a with
      | none =>
        obtain rfl := hn rfl
        obtain rfl : len = 0 := by omega
        go_enter Try.func56, Try.ntmps56
        go_wp2
        go_ret
        exact ⟨rfl, rfl⟩
      | some ad =>
        go_enter Try.func56, Try.ntmps56
        go_wp2
        go_ret
        exact ⟨rfl, rfl⟩
    · obtain ⟨m, rfl⟩ := Int.eq_ofNat_of_zero_le (by omega : 0 ≤ n)
      have ht : took (m : Int) len = m := by unfold took; omega
      rw [ht]
      clear ht
      cases a with
      | none =>
        obtain rfl := hn rfl
        obtain rfl : len = 0 := by omega
        obtain rfl : m = 0 := by omega
        go_enter Try.func56, Try.ntmps56
        go_wp2
        go_ret
        exact ⟨rfl, rfl⟩
      | some ad =>
        go_enter Try.func56, Try.ntmps56
        go_wp2
        go_ret
        exact ⟨rfl, rfl⟩
end Go.Proofs.Ytinabbdecmjcpaa.Queue

namespace Go.Proofs.Ytinabbdecmjcpaa.Queue
open Go.RowKit Go.Proofs.Ytinabbdecmjcpaa Go.Proofs.Ytinabbdecmjcpaa.Plain Go.Proofs.Ytinabbdecmjcpaa.Words Go.Proofs.Ytinabbdecmjcpaa.Hex
set_option linter.unusedVariables false

/-- The reference's queue in memory. -/
structure RQ (w : World) (x : Nat) (vB : Value) (q : List UInt8) (c g : Int) : Prop where
  c0 : w.cell? ⟨x, 0, none⟩ = some vB
  c1 : w.cell? ⟨x, 1, none⟩ = some (.int .u64 c)
  c2 : w.cell? ⟨x, 2, none⟩ = some (.int .u64 g)
  f0 : w.frozen? ⟨x, 0, none⟩ = false
  f1 : w.frozen? ⟨x, 1, none⟩ = false
  f2 : w.frozen? ⟨x, 2, none⟩ = false
  row : CRow w vB q
  len : q.length ≤ 64
  off : Off vB x
theorem RQ.lt {w : World} {x : Nat} {vB : Value} {q : List UInt8} {c g : Int} (h : RQ w x vB q c g) : x < w.heap.size := World.block_lt_of_cell? _ _ h.c0
theorem RQ.chg {w w' : World} {x : Nat} {bs : List Nat} {vB : Value} {q : List UInt8} {c g : Int} (h : RQ w x vB q c g) (hc : Chg bs w w') (hx : x ∉ bs) (ho : ∀ b ∈ bs, Off vB b) : RQ w' x vB q c g :=
  ⟨(hc.cell (p := ⟨x, 0, none⟩) h.lt hx).trans h.c0, (hc.cell (p := ⟨x, 1, none⟩) h.lt hx).trans h.c1, (hc.cell (p := ⟨x, 2, none⟩) h.lt hx).trans h.c2, (hc.frozen (p := ⟨x, 0, none⟩) h.lt hx).trans h.f0, (hc.frozen (p := ⟨x, 1, none⟩) h.lt hx).trans h.f1, (hc.frozen (p := ⟨x, 2, none⟩) h.lt hx).trans h.f2, crow_chg h.row hc ho, h.len, h.off⟩
theorem RQ.below {w w' : World} {x : Nat} {vB : Value} {q : List UInt8} {c g : Int} (h : RQ w x vB q c g) (hb : Below w.heap.size w w') : RQ w' x vB q c g := h.chg (bs := []) (Chg.of_below hb) (by simp) (by simp)

/-- What the reference's Do leaves. -/
def RDoPost (x : Nat) (vB : Value) (t : Told) (w : World) (e : Ending) (w' : World) : Prop :=
  ∃ v vB', e = .returned (.tuple #[v, .int .i64 t.num, .int .i64 t.err]) ∧ CRow w' v t.out ∧ RQ w' x vB' t.q t.came t.went ∧ (∀ b, b < w.heap.size → Off vB b → Off vB' b) ∧ Chg [x] w w'

/-- One append of bytes, as a step of a region that draws. -/
theorem step_append_bytes {ops : Array Oper} {o : Oper} {a : Act} {K : Act → World → Prop} {Q : Exit → Act → World → Prop} {E : Prop} {w : World} (hgd : o.guard = none) (s x : Operand)
    (ho : o.op = .call { callee := .builtin .append, args := #[s, x], argTypes := #[22, 22] }) (base : Nat) (v xv : Value) (l l2 : List UInt8) (hs : a.eval s = v) (hx : a.eval x = xv) (hown : Bys w base v l) (hrow : CRow w xv l2)
    (hlen : l.length + l2.length ≤ 1000000) (hbase : base ≤ w.heap.size) (h : ∀ (a' : Option Addr) (cap' : Nat) w', Bys w' base (.slice a' (l.length + l2.length) cap') (l ++ l2) → w.grownBy w' v.ownBlock → K (a.put o.dst (.slice a' (l.length + l2.length) cap')) w') :
    if Region.wanted o (yielded ops a.tmps) = true then Oper.wp Try.prog o a w K Q else E := by
  obtain ⟨i0, hi, hz0, hz1, hz2⟩ := info_parts info5
  have hw : Region.wanted o (yielded ops a.tmps) = true := by simp [Region.wanted, hgd]
  rw [if_pos hw]
  have hex : ∃ v' w', (Builtin.append_ #[22, 22] o.type #[v, xv]).run Try.prog w = .ok v' w' ∧ Bys w' base v' (l ++ l2) ∧ w.grownBy w' v.ownBlock := by
    rcases hrow with ⟨rfl, ad, cap, rfl, hn, _⟩ | ⟨g, o', cap, rfl, h0, _, _, hg, hc⟩
    · cases ad with
      | none =>
        obtain rfl := hn rfl
        refine ⟨v, w, run_append_owned_none (P := Try.prog) (w := w) base 22 o.type 5 i0 1 Try.underlying22 hi v l.length _ hown, by simpa using hown, ⟨rfl, rfl, rfl, Nat.le_refl _, fun _ _ _ => rfl⟩⟩
      | some ad =>
        obtain ⟨v', w', h1, h2, h3, _⟩ := run_append_own (P := Try.prog) w base 22 o.type 5 i0 (.int .u8 0) 1 1 Try.underlying22 hi hz0 hz1 hz2 rfl (by decide) v l.length _ hown ad 0 cap [] rfl (fun j u hj => by simp at hj) (fun u hu => by simp at hu) (by unfold maxLen; omega) (by omega) hbase
        exact ⟨v', w', h1, by simpa [Bys] using h2, h3⟩
    · obtain ⟨v', w', h1, h2, h3, _⟩ := run_append_own (P := Try.prog) w base 22 o.type 5 i0 (.int .u8 0) 1 1 Try.underlying22 hi hz0 hz1 hz2 rfl (by decide) v l.length _ hown ⟨g, o', none⟩ l2.length cap (l2.map bv) (by simp) (fun j u hj => by
          rw [addr_add]
          have hj' : j < l2.length := by
            have := (List.getElem?_eq_some_iff.1 hj).1
            simpa using this
          rw [hc j hj']
          simpa [hj'] using hj) (fun u hu => by
          obtain ⟨c, _, rfl⟩ := List.mem_map.1 hu
          rfl) (by unfold maxLen; omega) (by omega) hbase
      exact ⟨v', w', h1, by simpa [Bys] using h2, h3⟩
  obtain ⟨v', w', hrun, h2, h3⟩ := hex
  obtain ⟨a', cap', e⟩ := brow_form (bys_row h2)
  rw [List.length_append] at e
  subst e
  have hK := h a' cap' w' h2 h3
  unfold Oper.wp
  simp [execOp, ho, resolve, invoke, builtin, hs, hx, hrun, Result.andThen]
  exact hK

theorem bys_empty (X : World) (B : Nat) (h : B ≤ X.heap.size) : Bys (X.alloc (.cells #[] 5)) B (.slice (some ⟨X.heap.size, 0, none⟩) 0 0) [] :=
  ⟨rfl, .inr ⟨X.heap.size, 0, #[], rfl, h, by show (X.heap.push _)[X.heap.size]? = _; simp, Nat.le_refl _, Nat.zero_le _, rfl, rfl⟩⟩
theorem crow_drew {w : World} {v : Value} {l : List UInt8} (h : CRow w v l) : CRow w.drew v l := h
theorem bys_drew {w : World} {B : Nat} {v : Value} {l : List UInt8} (h : Bys w B v l) : Bys w.drew B v l := h
theorem RQ.drew {w : World} {x : Nat} {vB : Value} {q : List UInt8} {c g : Int} (h : RQ w x vB q c g) : RQ w.drew x vB q c g := ⟨h.c0, h.c1, h.c2, h.f0, h.f1, h.f2, h.row, h.len, h.off⟩

theorem rq_drewN {w : World} {x : Nat} {vB : Value} {q : List UInt8} {c g : Int} (h : RQ w x vB q c g) (n : Nat) : RQ (w.drewN n) x vB q c g := ⟨h.c0, h.c1, h.c2, h.f0, h.f1, h.f2, h.row, h.len, h.off⟩
theorem crow_drewN {w : World} {v : Value} {l : List UInt8} (h : CRow w v l) (n : Nat) : CRow (w.drewN n) v l := h
theorem crow_grow1 {w : World} {v : Value} {l : List UInt8} {o : Obj} (h : CRow w v l) : CRow (w.alloc o).drew v l := crow_drew (crow_below h ((Below.refl _ _).alloc (Nat.le_refl _) _))

/-- What stands when the bytes have been put. -/
def PutMid (w : World) (x B : Nat) (vB v : Value) (q : List UInt8) (c g : Int) (w0 : World) (wx : World) : Prop :=
  ∃ vB', RQ wx x vB' q c g ∧ (∀ b, b < w0.heap.size → Off vB b → Off vB' b) ∧ wx.cell? ⟨B, 2, none⟩ = some v ∧ Chg [x] w wx

theorem app_one {W w1 : World} {x B : Nat} {a b : Value} (hg : ((W.alloc (.cells #[] 5)).drew).grownBy w1 (Value.slice (some ⟨W.heap.size, 0, none⟩) 0 0).ownBlock) (h0 : W.cell? ⟨x, 0, none⟩ = some a) (hB : W.cell? ⟨B, 2, none⟩ = some b) (hf : W.frozen? ⟨x, 0, none⟩ = false) :
    Below W.heap.size W w1 ∧ w1.cell? ⟨x, 0, none⟩ = some a ∧ w1.cell? ⟨B, 2, none⟩ = some b ∧ w1.frozen? ⟨x, 0, none⟩ = false ∧ x < w1.heap.size ∧ B < w1.heap.size := by
  have hb : Below W.heap.size W w1 := Below.grown (((Below.refl _ _).alloc (Nat.le_refl _) _).drew) hg (by simp) (fun k hk => by simp [Value.ownBlock] at hk; omega)
  have l0 := World.block_lt_of_cell? _ _ h0
  have l1 := World.block_lt_of_cell? _ _ hB
  exact ⟨hb, (hb.cell (p := ⟨x, 0, none⟩) l0).trans h0, (hb.cell (p := ⟨B, 2, none⟩) l1).trans hB, (hb.frozen (p := ⟨x, 0, none⟩) l0).trans hf, Nat.lt_of_lt_of_le l0 hb.size, Nat.lt_of_lt_of_le l1 hb.size⟩
theorem app_two {W w1 w2 : World} {x B : Nat} {a b v1 : Value} {q : List UInt8} (hg : w1.grownBy w2 v1.ownBlock) (hown : Bys w1 W.heap.size v1 q) (hb1 : Below W.heap.size W w1) (h0 : W.cell? ⟨x, 0, none⟩ = some a) (hB : W.cell? ⟨B, 2, none⟩ = some b) (hf : W.frozen? ⟨x, 0, none⟩ = false) :
    Below W.heap.size W w2 ∧ w2.cell? ⟨x, 0, none⟩ = some a ∧ w2.cell? ⟨B, 2, none⟩ = some b ∧ w2.frozen? ⟨x, 0, none⟩ = false ∧ x < w2.heap.size ∧ B < w2.heap.size := by
  have hb : Below W.heap.size W w2 := hb1.grown hg hb1.size (fun k hk => (World.ownsRow.lt hown k hk).1)
  have l0 := World.block_lt_of_cell? _ _ h0
  have l1 := World.block_lt_of_cell? _ _ hB
  exact ⟨hb, (hb.cell (p := ⟨x, 0, none⟩) l0).trans h0, (hb.cell (p := ⟨B, 2, none⟩) l1).trans hB, (hb.frozen (p := ⟨x, 0, none⟩) l0).trans hf, Nat.lt_of_lt_of_le l0 hb.size, Nat.lt_of_lt_of_le l1 hb.size⟩
theorem set_off' (W : World) (b i j : Nat) (v : Value) (h : i ≠ j) : (W.setCell ⟨b, i, none⟩ v).cell? ⟨b, j, none⟩ = W.cell? ⟨b, j, none⟩ := set_off W b i j v h
theorem set_blk (W : World) (b c i j : Nat) (v : Value) (h : b ≠ c) : (W.setCell ⟨b, i, none⟩ v).cell? ⟨c, j, none⟩ = W.cell? ⟨c, j, none⟩ := World.cell?_setCell_other _ _ _ _ (fun e => h (congrArg Addr.block e))
theorem crow_set {w : World} {v u : Value} {l : List UInt8} {x i : Nat} (h : CRow w v l) (ho : Off v x) : CRow (w.setCell ⟨x, i, none⟩ u) v l := by
  rcases h with h | ⟨g, o, cap, rfl, h0, h1, h2, hg, hcl⟩
  · exact .inl h
  · exact .inr ⟨g, o, cap, rfl, h0, h1, h2, by simpa using hg, fun j hj => (set_blk _ _ _ _ _ _ (fun e => ho g o _ cap rfl h0 e.symm)).trans (hcl j hj)⟩
/-- A new row is put into the queue. -/
theorem RQ.put {w : World} {x : Nat} {vB vB' : Value} {q q' : List UInt8} {c g : Int} {B : Nat} (h : RQ w x vB q c g) (hown : Bys w B vB' q') (hx : x < B) (hl : q'.length ≤ 64) : RQ (w.setCell ⟨x, 0, none⟩ vB') x vB' q' c g :=
  ⟨World.cell?_setCell_same _ _ _ h.c0, (set_off _ _ _ _ _ (by omega)).trans h.c1, (set_off _ _ _ _ _ (by omega)).trans h.c2, by simpa using h.f0, by simpa using h.f1, by simpa using h.f2, bys_crow (ownsRow_set hown hx vB'), hl, bys_off hown hx⟩
theorem RQ.setCame {w : World} {x : Nat} {vB : Value} {q : List UInt8} {c g : Int} (h : RQ w x vB q c g) (c' : Int) : RQ (w.setCell ⟨x, 1, none⟩ (.int .u64 c')) x vB q c' g :=
  ⟨(set_off _ _ _ _ _ (by omega)).trans h.c0, World.cell?_setCell_same _ _ _ h.c1, (set_off _ _ _ _ _ (by omega)).trans h.c2, by simpa using h.f0, by simpa using h.f1, by simpa using h.f2, crow_set h.row h.off, h.len, h.off⟩
theorem RQ.setWent {w : World} {x : Nat} {vB : Value} {q : List UInt8} {c g : Int} (h : RQ w x vB q c g) (g' : Int) : RQ (w.setCell ⟨x, 2, none⟩ (.int .u64 g')) x vB q c g' :=
  ⟨(set_off _ _ _ _ _ (by omega)).trans h.c0, (set_off _ _ _ _ _ (by omega)).trans h.c1, World.cell?_setCell_same _ _ _ h.c2, by simpa using h.f0, by simpa using h.f1, by simpa using h.f2, crow_set h.row h.off, h.len, h.off⟩
theorem RQ.setRow {w : World} {x : Nat} {vB vB' : Value} {q q' : List UInt8} {c g : Int} (h : RQ w x vB q c g) (hr : CRow w vB' q') (ho : Off vB' x) (hl : q'.length ≤ 64) : RQ (w.setCell ⟨x, 0, none⟩ vB') x vB' q' c g :=
  ⟨World.cell?_setCell_same _ _ _ h.c0, (set_off _ _ _ _ _ (by omega)).trans h.c1, (set_off _ _ _ _ _ (by omega)).trans h.c2, by simpa using h.f0, by simpa using h.f1, by simpa using h.f2, crow_set hr ho, hl, ho⟩
theorem put_mid {W w2 w : World} {x : Nat} {vB v v2 : Value} {q l : List UInt8} {c g : Int} (h : RQ W x vB q c g) (hown : Bys w2 W.heap.size v2 (q ++ l)) (hb : Below W.heap.size W w2) (hB : W.cell? ⟨w.heap.size, 2, none⟩ = some v) (hz : w.heap.size < W.heap.size) (hf : q.length + l.length ≤ 64) :
    PutMid W x w.heap.size vB v (q ++ l) c g w (w2.setCell ⟨x, 0, none⟩ v2) := by
  have hxl := h.lt
  refine ⟨v2, RQ.put (h.below hb) hown hxl (by simp; omega), fun b hb' _ => bys_off hown (by omega), ?_, (Chg.of_below hb).setCell (by simp) _⟩
  by_cases e : x = w.heap.size
  · rw [e, set_off _ _ _ _ _ (by omega)]
    exact (hb.cell (p := ⟨w.heap.size, 2, none⟩) hz).trans hB
  · rw [set_blk _ _ _ _ _ _ e]
    exact (hb.cell (p := ⟨w.heap.size, 2, none⟩) hz).trans hB

set_option maxRecDepth 100000 in
set_option maxHeartbeats 1000000 in
theorem rdo_push {w : World} {x : Nat} {vB : Value} {q : List UInt8} {c g : Int} (n : Int) (l : List UInt8) (v : Value) (h : RQ w x vB q c g) (hv : CRow w v l) (ho : Off v x) (hc0 : 0 ≤ c) (hc1 : c ≤ 1000000000) (hf : q.length + l.length ≤ 64) :
    Calls Try.prog 24 #[.pointer (some ⟨x, 0, none⟩), .agg #[.int .i64 1, .int .i64 n, v]] w (RDoPost x vB ⟨[], 0, 0, q ++ l, c + l.length, g⟩ w) := by
  have ba : Below w.heap.size w (w.alloc (.cells #[.int .i64 1, .int .i64 n, v] 48)) := (Below.refl _ _).alloc (Nat.le_refl _) _
  have H := Lib.hid (h.below ba)
  have HV := Lib.hid (crow_below hv ba)
  have HO := Lib.hid ho
  obtain ⟨av, capv, rfl⟩ := crow_form hv
  obtain ⟨aB, capB, rfl⟩ := crow_form h.row
  have hxl := h.lt
  clear h hv ho
  have r0 := H.out.c0
  have r1 := H.out.c1
  have hql := H.out.len
  go_enter Try.func24, Try.ntmps24
  go_wp2_with fail
  go_quiet (fail)
  go_upto_region 5 with fail
  have b1 : Below w.heap.size w ((w.alloc (.cells #[.int .i64 1, .int .i64 n, .slice av l.length capv] 48)).drewN nq) := below_drewN ba nq
  have cB : ((w.alloc (.cells #[.int .i64 1, .int .i64 n, .slice av l.length capv] 48)).drewN nq).cell? ⟨w.heap.size, 2, none⟩ = some (.slice av l.length capv) := by
    show (w.alloc _).cell? _ = _
    rw [World.cell?_alloc_at _ _ _ _ rfl]; rfl
  have hz1 : ((w.alloc (.cells #[.int .i64 1, .int .i64 n, .slice av l.length capv] 48)).drewN nq).heap.size = w.heap.size + 1 := by show (w.alloc _).heap.size = _; simp
  have H1 := Lib.hid (rq_drewN H.out nq)
  have HV1 := Lib.hid (crow_drewN HV.out nq)
  clear ba H HV r0 r1
  generalize (w.alloc (.cells #[.int .i64 1, .int .i64 n, .slice av l.length capv] 48)).drewN nq = W1 at *
  have HZ := Lib.hid hz1
  have hz2 : w.heap.size < W1.heap.size := by omega
  clear hz1
  have r0 := H1.out.c0
  have r3 := H1.out.f0
  have hx1 : x < W1.heap.size := by omega
  go_cut [] (fun wx => PutMid W1 x w.heap.size (.slice aB q.length capB) (.slice av l.length capv) (q ++ l) c g w wx)
  case first =>
    go_region_law (first
      | (refine step_append_bytes (by rfl) (.tmp 24) (.tmp 28) (by rfl) W1.heap.size _ _ [] q (by rfl) (by rfl) (by exact bys_drew (bys_empty _ _ (Nat.le_refl _))) (by exact crow_grow1 H1.out.row) (by simp; omega) (by simp) ?_; intro a1 cap1 w1 hown1 hgrow1; simp only [List.length_nil, Nat.zero_add, List.nil_append] at hown1 ⊢; obtain ⟨hb1, p0, p1, p2, p3, p4⟩ := app_one hgrow1 r0 cB r3; have hs1 := hb1.size; clear hgrow1)
      | (refine step_append_bytes (by rfl) (.tmp 29) (.tmp 31) (by rfl) W1.heap.size _ _ q l (by rfl) (by rfl) (by exact hown1) (by exact crow_below HV1.out hb1) (by omega) (by exact hs1) ?_; intro a2 cap2 w2 hown2 hgrow2; obtain ⟨hb2, y0, y1, y2, y3, y4⟩ := app_two hgrow2 hown1 hb1 r0 cB r3; clear hgrow2))
    all_goals
      go_wp2_with fail
      go_meet
      exact put_mid H1.out hown2 hb2 cB hz2 hf
  case rest =>
    clear r0 r3 cB hx1
    obtain ⟨vB', hR, hof, hB2, hch⟩ := hcut
    have s1 := hR.c1
    have s2 := hR.f1
    have HR := Lib.hid hR
    have HF := Lib.hid hof
    have hq1 := H1.out.len
    clear hR hof
    go_wp2_with fail
    go_region
    go_wp2
    go_ret3
    refine ⟨_, vB', rfl, .inl ⟨rfl, none, 0, rfl, (fun _ => rfl), Nat.zero_le _⟩, (HR.out.setCame (c + l.length)).drew, HF.out, ?_⟩
    exact (((Chg.of_below b1).trans hch).setCell (p := ⟨x, 1, none⟩) (by simp) _).drew
end Go.Proofs.Ytinabbdecmjcpaa.Queue

namespace Go.Proofs.Ytinabbdecmjcpaa.Queue
open Go.RowKit Go.Proofs.Ytinabbdecmjcpaa Go.Proofs.Ytinabbdecmjcpaa.Plain Go.Proofs.Ytinabbdecmjcpaa.Words Go.Proofs.Ytinabbdecmjcpaa.Hex
set_option linter.unusedVariables false

theorem flip_same {P : Program} {f : FuncId} {args : Array Value} {w : World} {v : Value} (h : Calls P f args w fun e w' => e = .returned v ∧ w = w') : Calls P f args w fun e w' => e = .returned v ∧ w' = w := h.mono fun _ _ ⟨he, hw⟩ => ⟨he, hw.symm⟩
theorem crow_form_cap {w : World} {v : Value} {l : List UInt8} (h : CRow w v l) : ∃ a cap, v = .slice a l.length cap ∧ cap ≤ maxLen ∧ (a = none → cap = 0) ∧ l.length ≤ cap := by
  rcases h with ⟨rfl, a, cap, rfl, hn, hm⟩ | ⟨g, o, cap, rfl, h0, h1, h2, _⟩
  · exact ⟨a, cap, rfl, hm, hn, Nat.zero_le _⟩
  · exact ⟨_, cap, rfl, h2, (fun h => by cases h), h1⟩
theorem crow_take {w : World} {a : Option Addr} {cap : Nat} {l : List UInt8} (h : CRow w (.slice a l.length cap) l) (t : Nat) (ht : t ≤ l.length) : CRow w (.slice a t cap) (l.take t) := by
  rcases h with ⟨rfl, a', cap', e, hn, hm⟩ | ⟨g, o, cap', e, h0, h1, h2, hg, hc⟩
  · simp only [List.length_nil, Value.slice.injEq, true_and] at e
    obtain ⟨rfl, rfl⟩ := e
    obtain rfl : t = 0 := by simpa using ht
    exact .inl ⟨rfl, _, _, rfl, hn, hm⟩
  · simp only [Value.slice.injEq, true_and] at e
    obtain ⟨rfl, rfl⟩ := e
    by_cases ht0 : t = 0
    · subst ht0
      exact .inl ⟨rfl, _, _, rfl, (fun h => by cases h), h2⟩
    · have e : (l.take t).length = t := by simp; omega
      exact .inr ⟨g, o, cap, by rw [e], by omega, by omega, h2, hg, fun i hi => by rw [hc i (by omega)]; simp⟩
theorem off_take {a : Option Addr} {len cap b t cap' : Nat} (h : Off (.slice a len cap) b) (ht : t ≤ len) : Off (.slice a t cap') b := by
  intro g o len' cap'' e hl
  cases e
  exact h g o len cap rfl (by omega)

theorem drop_full {w : World} {a : Option Addr} {cap b : Nat} {l : List UInt8} (h : CRow w (.slice a l.length cap) l) (ho : Off (.slice a l.length cap) b) (t : Nat) (ht : t ≤ l.length) (hle : l.length ≤ t) : CRow w (.slice a (l.length - t) 0) (l.drop t) ∧ Off (.slice a (l.length - t) 0) b := by
  obtain rfl : t = l.length := by omega
  rw [List.drop_length, Nat.sub_self]
  exact ⟨.inl ⟨rfl, a, 0, rfl, (fun _ => rfl), Nat.zero_le _⟩, fun g o len cap e hl => by cases e; omega⟩
theorem drop_part {w : World} {a : Option Addr} {cap b : Nat} {l : List UInt8} (h : CRow w (.slice a l.length cap) l) (ho : Off (.slice a l.length cap) b) (t : Nat) (ht : t ≤ l.length) : CRow w (.slice (a.map fun x => x.add t) (l.length - t) (cap - t)) (l.drop t) ∧ Off (.slice (a.map fun x => x.add t) (l.length - t) (cap - t)) b := by
  rcases h with ⟨rfl, a', cap', e, hn, hm⟩ | ⟨g, o, cap', e, h0, h1, h2, hg, hc⟩
  · simp only [List.length_nil, Value.slice.injEq, true_and] at e
    obtain ⟨rfl, rfl⟩ := e
    obtain rfl : t = 0 := by simpa using ht
    refine ⟨.inl ⟨rfl, _, _, rfl, fun h => ?_, by omega⟩, (fun g o len cap e hl => by simp only [Value.slice.injEq, List.length_nil] at e; omega)⟩
    have := hn (by simpa using h)
    omega
  · simp only [Value.slice.injEq, true_and] at e
    obtain ⟨rfl, rfl⟩ := e
    simp only [Option.map_some, addr_add]
    refine ⟨?_, fun g' o' len cap e hl => ?_⟩
    · by_cases e : t = l.length
      · subst e
        rw [List.drop_length, Nat.sub_self]
        exact .inl ⟨rfl, _, _, rfl, (fun h => by cases h), by omega⟩
      · refine .inr ⟨g, o + t, cap - t, by simp, by simp; omega, by simp; omega, by omega, hg, fun i hi => ?_⟩
        simp at hi
        rw [Nat.add_assoc, hc (t + i) (by omega)]
        simp
    · cases e
      exact ho g o _ _ rfl h0

set_option maxRecDepth 100000 in
theorem rdo_full {w : World} {x : Nat} {vB : Value} {q : List UInt8} {c g : Int} (n : Int) (l : List UInt8) (v : Value) (h : RQ w x vB q c g) (hv : CRow w v l) (hl : l.length ≤ 200) (hf : 64 < q.length + l.length) :
    Calls Try.prog 24 #[.pointer (some ⟨x, 0, none⟩), .agg #[.int .i64 1, .int .i64 n, v]] w (RDoPost x vB ⟨[], 0, 15, q, c, g⟩ w) := by
  have ba : Below w.heap.size w (w.alloc (.cells #[.int .i64 1, .int .i64 n, v] 48)) := (Below.refl _ _).alloc (Nat.le_refl _) _
  have H := Lib.hid (h.below ba)
  obtain ⟨av, capv, rfl⟩ := crow_form hv
  obtain ⟨aB, capB, rfl⟩ := crow_form h.row
  have hxl := h.lt
  have r0 := H.out.c0
  have hql := H.out.len
  clear h hv
  have hwr : IntKind.i64.wrap ((q.length : Int) + (l.length : Int)) = (q.length : Int) + (l.length : Int) := IntWalk.i64_in _ (by omega)
  go_enter Try.func24, Try.ntmps24
  go_wp2_with fail
  go_quiet (fail)
  go_wp2
  go_ret3
  exact ⟨_, _, rfl, .inl ⟨rfl, none, 0, rfl, (fun _ => rfl), Nat.zero_le _⟩, rq_drewN H.out nq, fun b _ h => h, Chg.of_below (below_drewN ba nq)⟩

set_option maxRecDepth 100000 in
theorem rdo_drop {w : World} {x : Nat} {vB : Value} {q : List UInt8} {c g : Int} (n : Int) (v : Value) (h : RQ w x vB q c g) :
    Calls Try.prog 24 #[.pointer (some ⟨x, 0, none⟩), .agg #[.int .i64 4, .int .i64 n, v]] w (RDoPost x vB ⟨[], q.length, 0, [], c, g⟩ w) := by
  have ba : Below w.heap.size w (w.alloc (.cells #[.int .i64 4, .int .i64 n, v] 48)) := (Below.refl _ _).alloc (Nat.le_refl _) _
  have H := Lib.hid (h.below ba)
  obtain ⟨aB, capB, rfl⟩ := crow_form h.row
  have hxl := h.lt
  have r0 := H.out.c0
  have r1 := H.out.f0
  have hql := H.out.len
  clear h
  go_enter Try.func24, Try.ntmps24
  go_wp2
  go_ret3
  have hr : RQ ((w.alloc (.cells #[.int .i64 4, .int .i64 n, v] 48)).setCell ⟨x, 0, none⟩ (.slice none 0 0)) x (.slice none 0 0) [] c g := H.out.setRow (.inl ⟨rfl, none, 0, rfl, (fun _ => rfl), Nat.zero_le _⟩) (fun g o len cap e => by cases e) (by simp)
  refine ⟨_, .slice none 0 0, rfl, .inl ⟨rfl, none, 0, rfl, (fun _ => rfl), Nat.zero_le _⟩, ?_, (fun b _ _ g o len cap e => by cases e), ?_⟩
  · rw [World.setCell_alloc_past _ _ _ _ hxl] at hr
    exact hr
  · have := (Chg.of_below (bs := [x]) ba).setCell (p := ⟨x, 0, none⟩) (by simp) (.slice none 0 0)
    rw [World.setCell_alloc_past _ _ _ _ hxl] at this
    exact this

set_option maxRecDepth 100000 in
theorem rdo_none {w : World} {x : Nat} {vB : Value} {q : List UInt8} {c g : Int} (k n : Int) (v : Value) (h : RQ w x vB q c g) (k1 : k ≠ 1) (k2 : k ≠ 2) (k3 : k ≠ 3) (k4 : k ≠ 4) :
    Calls Try.prog 24 #[.pointer (some ⟨x, 0, none⟩), .agg #[.int .i64 k, .int .i64 n, v]] w (RDoPost x vB ⟨[], 0, 0, q, c, g⟩ w) := by
  have ba : Below w.heap.size w (w.alloc (.cells #[.int .i64 k, .int .i64 n, v] 48)) := (Below.refl _ _).alloc (Nat.le_refl _) _
  have H := Lib.hid (h.below ba)
  have e1 : (k == 1) = false := by simp [k1]
  have e2 : (k == 2) = false := by simp [k2]
  have e3 : (k == 3) = false := by simp [k3]
  have e4 : (k == 4) = false := by simp [k4]
  clear h k1 k2 k3 k4
  go_enter Try.func24, Try.ntmps24
  go_wp2
  go_ret3
  exact ⟨_, _, rfl, .inl ⟨rfl, none, 0, rfl, (fun _ => rfl), Nat.zero_le _⟩, H.out, fun b _ h => h, Chg.of_below ba⟩

set_option maxRecDepth 100000 in
theorem rdo_peek {w : World} {x : Nat} {vB : Value} {q : List UInt8} {c g : Int} (n : Int) (v : Value) (h : RQ w x vB q c g) :
    Calls Try.prog 24 #[.pointer (some ⟨x, 0, none⟩), .agg #[.int .i64 3, .int .i64 n, v]] w (RDoPost x vB ⟨q.take (took n q.length), 0, 0, q, c, g⟩ w) := by
  have ba : Below w.heap.size w (w.alloc (.cells #[.int .i64 3, .int .i64 n, v] 48)) := (Below.refl _ _).alloc (Nat.le_refl _) _
  have H := Lib.hid (h.below ba)
  obtain ⟨aB, capB, rfl, hcap, hn, hlc⟩ := crow_form_cap h.row
  have hxl := h.lt
  have r0 := H.out.c0
  have hql := H.out.len
  have HF := Lib.hid (fun W => flip_same (first_any aB q.length capB n W hn hlc hcap))
  clear h hn
  go_enter Try.func24, Try.ntmps24
  go_wp2_with fail
  go_quiet ((go_at_call 56; exact Calls.quiet_of_same (HF.out _)))
  go_wp2
  go_ret3
  exact ⟨_, _, rfl, crow_drewN (crow_take H.out.row _ (took_le _ _)) nq, rq_drewN H.out nq, fun b _ h => h, Chg.of_below (below_drewN ba nq)⟩

set_option maxRecDepth 100000 in
set_option maxHeartbeats 1000000 in
theorem rdo_pop {w : World} {x : Nat} {vB : Value} {q : List UInt8} {c g : Int} (n : Int) (v : Value) (h : RQ w x vB q c g) (hg0 : 0 ≤ g) (hg1 : g ≤ 1000000000) :
    Calls Try.prog 24 #[.pointer (some ⟨x, 0, none⟩), .agg #[.int .i64 2, .int .i64 n, v]] w (RDoPost x vB ⟨q.take (took n q.length), 0, 0, q.drop (took n q.length), c, g + took n q.length⟩ w) := by
  have ba : Below w.heap.size w (w.alloc (.cells #[.int .i64 2, .int .i64 n, v] 48)) := (Below.refl _ _).alloc (Nat.le_refl _) _
  have H := Lib.hid (h.below ba)
  obtain ⟨aB, capB, rfl, hcap, hn, hlc⟩ := crow_form_cap h.row
  have hxl := h.lt
  have r0 := H.out.c0
  have r1 := H.out.f0
  have r2 := H.out.c2
  have r3 := H.out.f2
  have r4 := set_off
  have hql := H.out.len
  have HF := Lib.hid (fun W => flip_same (first_any aB q.length capB n W hn hlc hcap))
  have ht := took_le n q.length
  have hx1 : x < w.heap.size + 1 := by omega
  generalize took n q.length = t at *
  unfold maxLen at hcap
  clear h
  go_enter Try.func24, Try.ntmps24
  go_wp2_with fail
  go_quiet ((go_at_call 56; exact Calls.quiet_of_same (HF.out _)))
  go_wp2
  · have hct : capB = t := by assumption
    go_ret3
    obtain ⟨d1, d2⟩ := drop_full H.out.row H.out.off t ht (by omega)
    refine ⟨_, _, rfl, crow_set (crow_set (crow_drewN (hct ▸ crow_take H.out.row t ht) nq) (off_take H.out.off ht)) (off_take H.out.off ht), ((rq_drewN H.out nq).setRow (crow_drewN d1 nq) d2 (by simp; omega)).setWent _, fun b hb hof => (drop_full H.out.row (hct ▸ hof) t ht (by omega)).2, ?_⟩
    exact (((Chg.of_below (below_drewN ba nq)).setCell (p := ⟨x, 0, none⟩) (by simp) _).setCell (p := ⟨x, 2, none⟩) (by simp) _)
  · have hct : ¬ capB = t := by assumption
    go_ret3
    obtain ⟨d1, d2⟩ := drop_part H.out.row H.out.off t ht
    refine ⟨_, _, rfl, crow_set (crow_set (crow_drewN (crow_take H.out.row t ht) nq) (off_take H.out.off ht)) (off_take H.out.off ht), ((rq_drewN H.out nq).setRow (crow_drewN d1 nq) d2 (by simp; omega)).setWent _, fun b hb hof => (drop_part H.out.row hof t ht).2, ?_⟩
    exact (((Chg.of_below (below_drewN ba nq)).setCell (p := ⟨x, 0, none⟩) (by simp) _).setCell (p := ⟨x, 2, none⟩) (by simp) _)

/-- The reference's Do: a step. -/
theorem rdo_any {w : World} {x : Nat} {vB : Value} {q : List UInt8} {c g : Int} (k n : Int) (l : List UInt8) (v : Value) (h : RQ w x vB q c g) (hv : CRow w v l) (hl : l.length ≤ 200) (ho : Off v x) (hc0 : 0 ≤ c) (hc1 : c ≤ 1000000000) (hg0 : 0 ≤ g) (hg1 : g ≤ 1000000000) :
    Calls Try.prog 24 #[.pointer (some ⟨x, 0, none⟩), .agg #[.int .i64 k, .int .i64 n, v]] w (RDoPost x vB (step k n l q c g) w) := by
  by_cases k1 : k = 1
  · subst k1
    by_cases hf : 64 < q.length + l.length
    · rw [show step 1 n l q c g = ⟨[], 0, 15, q, c, g⟩ by simp [step, hf]]
      exact rdo_full n l v h hv hl hf
    · rw [show step 1 n l q c g = ⟨[], 0, 0, q ++ l, c + l.length, g⟩ by simp [step, hf]]
      exact rdo_push n l v h hv ho hc0 hc1 (by omega)
  · by_cases k2 : k = 2
    · subst k2
      rw [show step 2 n l q c g = ⟨q.take (took n q.length), 0, 0, q.drop (took n q.length), c, g + took n q.length⟩ by simp [step]]
      exact rdo_pop n v h hg0 hg1
    · by_cases k3 : k = 3
      · subst k3
        rw [show step 3 n l q c g = ⟨q.take (took n q.length), 0, 0, q, c, g⟩ by simp [step]]
        exact rdo_peek n v h
      · by_cases k4 : k = 4
        · subst k4
          rw [show step 4 n l q c g = ⟨[], q.length, 0, [], c, g⟩ by simp [step]]
          exact rdo_drop n v h
        · rw [show step k n l q c g = ⟨[], 0, 0, q, c, g⟩ by simp [step, k1, k2, k3, k4]]
          exact rdo_none k n v h k1 k2 k3 k4
end Go.Proofs.Ytinabbdecmjcpaa.Queue

namespace Go.Proofs.Ytinabbdecmjcpaa.Queue
open Go.RowKit Go.Proofs.Ytinabbdecmjcpaa Go.Proofs.Ytinabbdecmjcpaa.Plain Go.Proofs.Ytinabbdecmjcpaa.Words Go.Proofs.Ytinabbdecmjcpaa.Hex
set_option linter.unusedVariables false

theorem run_append_bytes {w : World} (ty : TypeId) (base : Nat) (v xv : Value) (l l2 : List UInt8) (hown : Bys w base v l) (hrow : CRow w xv l2) (hlen : l.length + l2.length ≤ 1000000) (hbase : base ≤ w.heap.size) :
    ∃ (a' : Option Addr) (cap' : Nat) (w' : World), (Builtin.append_ #[22, 22] ty #[v, xv]).run Try.prog w = .ok (.slice a' (l.length + l2.length) cap') w' ∧ Bys w' base (.slice a' (l.length + l2.length) cap') (l ++ l2) ∧ w.grownBy w' v.ownBlock ∧
      ((Value.slice a' (l.length + l2.length) cap').ownBlock = v.ownBlock ∨ (Value.slice a' (l.length + l2.length) cap').ownBlock = some w.heap.size) := by
  obtain ⟨i0, hi, hz0, hz1, hz2⟩ := info_parts info5
  have hex : ∃ v' w', (Builtin.append_ #[22, 22] ty #[v, xv]).run Try.prog w = .ok v' w' ∧ Bys w' base v' (l ++ l2) ∧ w.grownBy w' v.ownBlock ∧ (v'.ownBlock = v.ownBlock ∨ v'.ownBlock = some w.heap.size) := by
    rcases hrow with ⟨rfl, ad, cap, rfl, hn, _⟩ | ⟨g, o', cap, rfl, h0, _, _, hg, hc⟩
    · cases ad with
      | none =>
        obtain rfl := hn rfl
        exact ⟨v, w, run_append_owned_none (P := Try.prog) (w := w) base 22 ty 5 i0 1 Try.underlying22 hi v l.length _ hown, by simpa using hown, ⟨rfl, rfl, rfl, Nat.le_refl _, fun _ _ _ => rfl⟩, .inl rfl⟩
      | some ad =>
        obtain ⟨v', w', h1, h2, h3, _, h5⟩ := run_append_own_at (P := Try.prog) w base 22 ty 5 i0 (.int .u8 0) 1 1 Try.underlying22 hi hz0 hz1 hz2 rfl (by decide) v l.length _ hown ad 0 cap [] rfl (fun j u hj => by simp at hj) (fun u hu => by simp at hu) (by unfold maxLen; omega) (by omega) hbase
        exact ⟨v', w', h1, by simpa [Bys] using h2, h3, h5⟩
    · obtain ⟨v', w', h1, h2, h3, _, h5⟩ := run_append_own_at (P := Try.prog) w base 22 ty 5 i0 (.int .u8 0) 1 1 Try.underlying22 hi hz0 hz1 hz2 rfl (by decide) v l.length _ hown ⟨g, o', none⟩ l2.length cap (l2.map bv) (by simp) (fun j u hj => by
          rw [addr_add]
          have hj' : j < l2.length := by
            have := (List.getElem?_eq_some_iff.1 hj).1
            simpa using this
          rw [hc j hj']
          simpa [hj'] using hj) (fun u hu => by
          obtain ⟨c, _, rfl⟩ := List.mem_map.1 hu
          rfl) (by unfold maxLen; omega) (by omega) hbase
      exact ⟨v', w', h1, by simpa [Bys] using h2, h3, h5⟩
  obtain ⟨v', w', hrun, h2, h3, h5⟩ := hex
  obtain ⟨a', cap', e⟩ := brow_form (bys_row h2)
  rw [List.length_append] at e
  subst e
  exact ⟨a', cap', w', hrun, h2, h3, h5⟩

theorem wpList_append_bytes {w : World} {ops : Array Oper} {rest : List Oper} {o : Oper} {a : Act} {Q : Exit → Act → World → Prop} (hgd : o.guard = none) (s x : Operand)
    (ho : o.op = .call { callee := .builtin .append, args := #[s, x], argTypes := #[22, 22] }) (base : Nat) (v xv : Value) (l l2 : List UInt8) (hs : a.eval s = v) (hx : a.eval x = xv) (hown : Bys w base v l) (hrow : CRow w xv l2)
    (hlen : l.length + l2.length ≤ 1000000) (hbase : base ≤ w.heap.size)
    (h : ∀ (a' : Option Addr) (cap' : Nat) w', Bys w' base (.slice a' (l.length + l2.length) cap') (l ++ l2) → w.grownBy w' v.ownBlock → ((Value.slice a' (l.length + l2.length) cap').ownBlock = v.ownBlock ∨ (Value.slice a' (l.length + l2.length) cap').ownBlock = some w.heap.size) → wpList Try.prog ops Q rest (a.put o.dst (.slice a' (l.length + l2.length) cap')) w') : wpList Try.prog ops Q (o :: rest) a w := by
  refine wpList_plain hgd fun K hK => ?_
  obtain ⟨a', cap', w', hrun, h2, h3, h5⟩ := run_append_bytes o.type base v xv l l2 hown hrow hlen hbase
  unfold Oper.wp
  simp [execOp, ho, resolve, invoke, builtin, hs, hx, hrun, Result.andThen]
  exact hK _ _ (h a' cap' w' h2 h3 h5)

/-- Two rows of the call's own that lie apart. -/
def Apart (v u : Value) : Prop := ∀ g, v.ownBlock = some g → u.ownBlock ≠ some g
theorem Apart.symm {v u : Value} (h : Apart v u) : Apart u v := fun g hu hv => h g hv hu
theorem bys_grown {w w' : World} {B : Nat} {v u : Value} {l : List UInt8} (h : Bys w B v l) (hg : w.grownBy w' u.ownBlock) (ha : Apart v u) : Bys w' B v l :=
  World.ownsRow.kept h hg (by
    cases hv : v.ownBlock with
    | none => exact .inl rfl
    | some g => exact .inr fun e => ha g hv e.symm)
theorem bys_lt {w : World} {B g : Nat} {v : Value} {l : List UInt8} (h : Bys w B v l) (hg : v.ownBlock = some g) : B ≤ g ∧ g < w.heap.size := World.ownsRow.lt h g hg
theorem apart_new {w : World} {B : Nat} {v u v' : Value} {l : List UInt8} (h : Bys w B u l) (ha : Apart v u) (hv : v'.ownBlock = v.ownBlock ∨ v'.ownBlock = some w.heap.size) : Apart v' u := by
  intro g hg hu
  rcases hv with e | e
  · rw [e] at hg; exact ha g hg hu
  · rw [e] at hg
    cases hg
    have := (bys_lt h hu).2
    omega
theorem bys_chg {w w' : World} {B : Nat} {bs : List Nat} {v : Value} {l : List UInt8} (h : Bys w B v l) (hc : Chg bs w w') (hb : ∀ b ∈ bs, b < B) : Bys w' B v l := by
  obtain ⟨h1, h2⟩ := h
  refine ⟨h1, ?_⟩
  rcases h2 with h2 | ⟨g, cap, cur, a, b, d, r⟩
  · exact .inl h2
  · exact .inr ⟨g, cap, cur, a, b, (hc.block g (lt_of_block d) (fun x => by have := hb g x; omega)).trans d, r⟩
end Go.Proofs.Ytinabbdecmjcpaa.Queue

namespace Go.Proofs.Ytinabbdecmjcpaa.Ev
open Go.RowKit Go.Proofs.Ytinabbdecmjcpaa Go.Proofs.Ytinabbdecmjcpaa.Plain Go.Proofs.Ytinabbdecmjcpaa.Words Go.Proofs.Ytinabbdecmjcpaa.Hex Go.Proofs.Ytinabbdecmjcpaa.Queue
set_option linter.unusedVariables false

def ClonePost (l : List UInt8) (w : World) (e : Ending) (w' : World) : Prop := ∃ v', e = .returned v' ∧ Bys w' w.heap.size v' l ∧ Below w.heap.size w w'
set_option maxRecDepth 100000 in
theorem clone_any (l : List UInt8) (v : Value) (w : World) (hl : l.length ≤ 100000) (h : CRow w v l) : Calls Try.prog 111 #[v] w (ClonePost l w) := by
  obtain ⟨a, cap, hv, hcap, hn, hlc⟩ := crow_form_cap h
  have hne := fun (W : World) (a : Option Addr) (n c : Nat) => Lib.run_eql_slice_nil (P := Try.prog) W 22 5 a n c 0 0 Try.underlying22
  cases a with
  | none =>
    obtain rfl := hn rfl
    obtain rfl : l = [] := List.length_eq_zero_iff.1 (by omega)
    subst hv
    clear h
    simp only [List.length_nil]
    go_enter Try.func111, Try.ntmps111
    go_wp2
    go_ret
    exact ⟨_, rfl, World.ownsRow_nil _ _ _ _, Below.refl _ _⟩
  | some ad =>
    subst hv
    have H := Lib.hid h
    clear h hn
    go_enter Try.func111, Try.ntmps111
    go_wp2_with (at_builtin; refine wpList_append_bytes rfl (.tmp 5) (.tmp 6) rfl w.heap.size _ _ [] l rfl rfl (bys_empty _ _ (Nat.le_refl _)) (crow_below H.out ((Below.refl _ _).alloc (Nat.le_refl _) _)) (by simp; omega) (by simp) ?_; intro a' cap' w' h1 h2 h3)
    go_ret
    refine ⟨_, rfl, by simpa using h1, ?_⟩
    exact ((Below.refl _ _).alloc (Nat.le_refl _) _).grown h2 (by simp) (fun k hk => by cases hk; exact Nat.le_refl _)
end Go.Proofs.Ytinabbdecmjcpaa.Ev
