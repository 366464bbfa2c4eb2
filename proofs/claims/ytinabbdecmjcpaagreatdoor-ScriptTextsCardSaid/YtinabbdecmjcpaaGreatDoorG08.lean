/- Contracts of the reference of layer 25: Large, First, Do: a step on a list of bytes. The contract of the reference's Do of layer 25: a step on a list of bytes. The contract of the reference's Do of layer 25, all steps. One append of bytes onto a row of the call's own: a law for the walk, with where the new row lies. The contract of slices.Clone of bytes: a copy in new memory. -/
import Derived.Deep.RegionHeld3
import Derived.Deep.DeepCutAuto
import Derived.Deep.RegionLaw
import Derived.Maps.AppendAt
import Derived.WalkSpells
import Derived.Test.YtinabbdecmjcpaaGreatDoorG05
namespace Go.Proofs.YtinabbdecmjcpaaGreatDoor.Queue
open Go.RowKit Go.Proofs.YtinabbdecmjcpaaGreatDoor Go.Proofs.YtinabbdecmjcpaaGreatDoor.Plain Go.Proofs.YtinabbdecmjcpaaGreatDoor.Words Go.Proofs.YtinabbdecmjcpaaGreatDoor.Hex
set_option linter.unusedVariables false

/-- What Large says: where it says no, there are few, and short ones. -/
def LargePost (v : Value) (len : Nat) (w : World) (e : Ending) (w' : World) : Prop :=
  ∃ b : Bool, e = .returned (.bool b) ∧ w = w' ∧ (b = false → len ≤ 100 ∧ ∀ g o cap, v = .slice (some ⟨g, o, none⟩) len cap → ∀ i, i < len → ∀ k n dv l, StepAt w g o i k n dv l → l.length ≤ 200)

theorem stepAt_len {w : World} {g o i : Nat} {k n k' n' : Int} {dv dv' : Value} {l l' : List UInt8} (h : StepAt w g o i k n dv l) (h' : StepAt w g o i k' n' dv' l') : l.length = l'.length := by
  have e : dv = dv' := by have := h.c2.symm.trans h'.c2; exact Option.some.inj this
  subst e
  obtain ⟨a, cap, e1⟩ := crow_form h.row
  obtain ⟨a', cap', e2⟩ := crow_form h'.row
  rw [e1] at e2
  simp only [Value.slice.injEq] at e2
  exact e2.2.1

end Go.Proofs.YtinabbdecmjcpaaGreatDoor.Queue

namespace Go.Proofs.YtinabbdecmjcpaaGreatDoor.Queue
open Go.RowKit Go.Proofs.YtinabbdecmjcpaaGreatDoor Go.Proofs.YtinabbdecmjcpaaGreatDoor.Plain Go.Proofs.YtinabbdecmjcpaaGreatDoor.Words Go.Proofs.YtinabbdecmjcpaaGreatDoor.Hex
set_option linter.unusedVariables false

/-- The reference's queue in memory. -/
structure RQ (w : World) (x : Nat) (vB : Value) (q : List UInt8) (c g : Int) : Prop where
  c0 : w.cell? ⟨x, 0, none⟩ = some vB
  c1 : w.cell? ⟨x, 1, none⟩ = some (.int .u64 c)
  c2 : w.cell? ⟨x, 2, none⟩ = some (.int .u64 g)
  f0 : w.frozen? ⟨x, 0, none⟩ = false
  f1 : w.frozen? ⟨x, 1, none⟩ = false
  f2 : w.frozen? ⟨x, 2, none⟩ = false
  row : CRow w vB q
  len : q.length ≤ 64
  off : Off vB x
theorem RQ.lt {w : World} {x : Nat} {vB : Value} {q : List UInt8} {c g : Int} (h : RQ w x vB q c g) : x < w.heap.size := World.block_lt_of_cell? _ _ h.c0
theorem RQ.chg {w w' : World} {x : Nat} {bs : List Nat} {vB : Value} {q : List UInt8} {c g : Int} (h : RQ w x vB q c g) (hc : Chg bs w w') (hx : x ∉ bs) (ho : ∀ b ∈ bs, Off vB b) : RQ w' x vB q c g :=
  ⟨(hc.cell (p := ⟨x, 0, none⟩) h.lt hx).trans h.c0, (hc.cell (p := ⟨x, 1, none⟩) h.lt hx).trans h.c1, (hc.cell (p := ⟨x, 2, none⟩) h.lt hx).trans h.c2, (hc.frozen (p := ⟨x, 0, none⟩) h.lt hx).trans h.f0, (hc.frozen (p := ⟨x, 1, none⟩) h.lt hx).trans h.f1, (hc.frozen (p := ⟨x, 2, none⟩) h.lt hx).trans h.f2, crow_chg h.row hc ho, h.len, h.off⟩
theorem RQ.below {w w' : World} {x : Nat} {vB : Value} {q : List UInt8} {c g : Int} (h : RQ w x vB q c g) (hb : Below w.heap.size w w') : RQ w' x vB q c g := h.chg (bs := []) (Chg.of_below hb) (by simp) (by simp)

/-- What the reference's Do leaves. -/
def RDoPost (x : Nat) (vB : Value) (t : Told) (w : World) (e : Ending) (w' : World) : Prop :=
  ∃ v vB', e = .returned (.tuple #[v, .int .i64 t.num, .int .i64 t.err]) ∧ CRow w' v t.out ∧ RQ w' x vB' t.q t.came t.went ∧ (∀ b, b < w.heap.size → Off vB b → Off vB' b) ∧ Chg [x] w w'

/-- One append of bytes, as a step of a region that draws. -/
theorem step_append_bytes {ops : Array Oper} {o : Oper} {a : Act} {K : Act → World → Prop} {Q : Exit → Act → World → Prop} {E : Prop} {w : World} (hgd : o.guard = none) (s x : Operand)
    (ho : o.op = .call { callee := .builtin .append, args := #[s, x], argTypes := #[42, 42] }) (base : Nat) (v xv : Value) (l l2 : List UInt8) (hs : a.eval s = v) (hx : a.eval x = xv) (hown : Bys w base v l) (hrow : CRow w xv l2)
    (hlen : l.length + l2.length ≤ 1000000) (hbase : base ≤ w.heap.size) (h : ∀ (a' : Option Addr) (cap' : Nat) w', Bys w' base (.slice a' (l.length + l2.length) cap') (l ++ l2) → w.grownBy w' v.ownBlock → K (a.put o.dst (.slice a' (l.length + l2.length) cap')) w') :
    if Region.wanted o (yielded ops a.tmps) = true then Oper.wp Tryz.prog o a w K Q else E := by
  obtain ⟨i0, hi, hz0, hz1, hz2⟩ := info_parts info5
  have hw : Region.wanted o (yielded ops a.tmps) = true := by simp [Region.wanted, hgd]
  rw [if_pos hw]
  have hex : ∃ v' w', (Builtin.append_ #[42, 42] o.type #[v, xv]).run Tryz.prog w = .ok v' w' ∧ Bys w' base v' (l ++ l2) ∧ w.grownBy w' v.ownBlock := by
    rcases hrow with ⟨rfl, ad, cap, rfl, hn, _⟩ | ⟨g, o', cap, rfl, h0, _, _, hg, hc⟩
    · cases ad with
      | none =>
        obtain rfl := hn rfl
        refine ⟨v, w, run_append_owned_none (P := Tryz.prog) (w := w) base 42 o.type 5 i0 1 Tryz.underlying42 hi v l.length _ hown, by simpa using hown, ⟨rfl, rfl, rfl, Nat.le_refl _, fun _ _ _ => rfl⟩⟩
      | some ad =>
        obtain ⟨v', w', h1, h2, h3, _⟩ := run_append_own (P := Tryz.prog) w base 42 o.type 5 i0 (.int .u8 0) 1 1 Tryz.underlying42 hi hz0 hz1 hz2 rfl (by decide) v l.length _ hown ad 0 cap [] rfl (fun j u hj => by simp at hj) (fun u hu => by simp at hu) (by unfold maxLen; omega) (by omega) hbase
        exact ⟨v', w', h1, by simpa [Bys] using h2, h3⟩
    · obtain ⟨v', w', h1, h2, h3, _⟩ := run_append_own (P := Tryz.prog) w base 42 o.type 5 i0 (.int .u8 0) 1 1 Tryz.underlying42 hi hz0 hz1 hz2 rfl (by decide) v l.length _ hown ⟨g, o', none⟩ l2.length cap (l2.map bv) (by simp) (fun j u hj => by
          rw [addr_add]
          have hj' : j < l2.length := by
            have := (List.getElem?_eq_some_iff.1 hj).1
            simpa using this
          rw [hc j hj']
          simpa [hj'] using hj) (fun u hu => by
          obtain ⟨c, _, rfl⟩ := List.mem_map.1 hu
          rfl) (by unfold maxLen; omega) (by omega) hbase
      exact ⟨v', w', h1, by simpa [Bys] using h2, h3⟩
  obtain ⟨v', w', hrun, h2, h3⟩ := hex
  obtain ⟨a', cap', e⟩ := brow_form (bys_row h2)
  rw [List.length_append] at e
  subst e
  have hK := h a' cap' w' h2 h3
  unfold Oper.wp
  simp [execOp, ho, resolve, invoke, builtin, hs, hx, hrun, Result.andThen]
  exact hK

theorem bys_empty (X : World) (B : Nat) (h : B ≤ X.heap.size) : Bys (X.alloc (.cells #[] 5)) B (.slice (some ⟨X.heap.size, 0, none⟩) 0 0) [] :=
  ⟨rfl, .inr ⟨X.heap.size, 0, #[], rfl, h, by show (X.heap.push _)[X.heap.size]? = _; simp, Nat.le_refl _, Nat.zero_le _, rfl, rfl⟩⟩
theorem crow_drew {w : World} {v : Value} {l : List UInt8} (h : CRow w v l) : CRow w.drew v l := h
theorem bys_drew {w : World} {B : Nat} {v : Value} {l : List UInt8} (h : Bys w B v l) : Bys w.drew B v l := h
theorem RQ.drew {w : World} {x : Nat} {vB : Value} {q : List UInt8} {c g : Int} (h : RQ w x vB q c g) : RQ w.drew x vB q c g := ⟨h.c0, h.c1, h.c2, h.f0, h.f1, h.f2, h.row, h.len, h.off⟩

theorem rq_drewN {w : World} {x : Nat} {vB : Value} {q : List UInt8} {c g : Int} (h : RQ w x vB q c g) (n : Nat) : RQ (w.drewN n) x vB q c g := ⟨h.c0, h.c1, h.c2, h.f0, h.f1, h.f2, h.row, h.len, h.off⟩
theorem crow_drewN {w : World} {v : Value} {l : List UInt8} (h : CRow w v l) (n : Nat) : CRow (w.drewN n) v l := h
theorem crow_grow1 {w : World} {v : Value} {l : List UInt8} {o : Obj} (h : CRow w v l) : CRow (w.alloc o).drew v l := crow_drew (crow_below h ((Below.refl _ _).alloc (Nat.le_refl _) _))

/-- What stands when the bytes have been put. -/
def PutMid (w : World) (x B : Nat) (vB v : Value) (q : List UInt8) (c g : Int) (w0 : World) (wx : World) : Prop :=
  ∃ vB', RQ wx x vB' q c g ∧ (∀ b, b < w0.heap.size → Off vB b → Off vB' b) ∧ wx.cell? ⟨B, 2, none⟩ = some v ∧ Chg [x] w wx

theorem app_one {W w1 : World} {x B : Nat} {a b : Value} (hg : ((W.alloc (.cells #[] 5)).drew).grownBy w1 (Value.slice (some ⟨W.heap.size, 0, none⟩) 0 0).ownBlock) (h0 : W.cell? ⟨x, 0, none⟩ = some a) (hB : W.cell? ⟨B, 2, none⟩ = some b) (hf : W.frozen? ⟨x, 0, none⟩ = false) :
    Below W.heap.size W w1 ∧ w1.cell? ⟨x, 0, none⟩ = some a ∧ w1.cell? ⟨B, 2, none⟩ = some b ∧ w1.frozen? ⟨x, 0, none⟩ = false ∧ x < w1.heap.size ∧ B < w1.heap.size := by
  have hb : Below W.heap.size W w1 := Below.grown (((Below.refl _ _).alloc (Nat.le_refl _) _).drew) hg (by simp) (fun k hk => by simp [Value.ownBlock] at hk; omega)
  have l0 := World.block_lt_of_cell? _ _ h0
  have l1 := World.block_lt_of_cell? _ _ hB
  exact ⟨hb, (hb.cell (p := ⟨x, 0, none⟩) l0).trans h0, (hb.cell (p := ⟨B, 2, none⟩) l1).trans hB, (hb.frozen (p := ⟨x, 0, none⟩) l0).trans hf, Nat.lt_of_lt_of_le l0 hb.size, Nat.lt_of_lt_of_le l1 hb.size⟩
theorem app_two {W w1 w2 : World} {x B : Nat} {a b v1 : Value} {q : List UInt8} (hg : w1.grownBy w2 v1.ownBlock) (hown : Bys w1 W.heap.size v1 q) (hb1 : Below W.heap.size W w1) (h0 : W.cell? ⟨x, 0, none⟩ = some a) (hB : W.cell? ⟨B, 2, none⟩ = some b) (hf : W.frozen? ⟨x, 0, none⟩ = false) :
    Below W.heap.size W w2 ∧ w2.cell? ⟨x, 0, none⟩ = some a ∧ w2.cell? ⟨B, 2, none⟩ = some b ∧ w2.frozen? ⟨x, 0, none⟩ = false ∧ x < w2.heap.size ∧ B < w2.heap.size := by
  have hb : Below W.heap.size W w2 := hb1.grown hg hb1.size (fun k hk => (World.ownsRow.lt hown k hk).1)
  have l0 := World.block_lt_of_cell? _ _ h0
  have l1 := World.block_lt_of_cell? _ _ hB
  exact ⟨hb, (hb.cell (p := ⟨x, 0, none⟩) l0).trans h0, (hb.cell (p := ⟨B, 2, none⟩) l1).trans hB, (hb.frozen (p := ⟨x, 0, none⟩) l0).trans hf, Nat.lt_of_lt_of_le l0 hb.size, Nat.lt_of_lt_of_le l1 hb.size⟩
theorem set_off' (W : World) (b i j : Nat) (v : Value) (h : i ≠ j) : (W.setCell ⟨b, i, none⟩ v).cell? ⟨b, j, none⟩ = W.cell? ⟨b, j, none⟩ := set_off W b i j v h
theorem set_blk (W : World) (b c i j : Nat) (v : Value) (h : b ≠ c) : (W.setCell ⟨b, i, none⟩ v).cell? ⟨c, j, none⟩ = W.cell? ⟨c, j, none⟩ := World.cell?_setCell_other _ _ _ _ (fun e => h (congrArg Addr.block e))
theorem crow_set {w : World} {v u : Value} {l : List UInt8} {x i : Nat} (h : CRow w v l) (ho : Off v x) : CRow (w.setCell ⟨x, i, none⟩ u) v l := by
  rcases h with h | ⟨g, o, cap, rfl, h0, h1, h2, hg, hcl⟩
  · exact .inl h
  · exact .inr ⟨g, o, cap, rfl, h0, h1, h2, by simpa using hg, fun j hj => (set_blk _ _ _ _ _ _ (fun e => ho g o _ cap rfl h0 e.symm)).trans (hcl j hj)⟩
/-- A new row is put into the queue. -/
theorem RQ.put {w : World} {x : Nat} {vB vB' : Value} {q q' : List UInt8} {c g : Int} {B : Nat} (h : RQ w x vB q c g) (hown : Bys w B vB' q') (hx : x < B) (hl : q'.length ≤ 64) : RQ (w.setCell ⟨x, 0, none⟩ vB') x vB' q' c g :=
  ⟨World.cell?_setCell_same _ _ _ h.c0, (set_off _ _ _ _ _ (by omega)).trans h.c1, (set_off _ _ _ _ _ (by omega)).trans h.c2, by simpa using h.f0, by simpa using h.f1, by simpa using h.f2, bys_crow (ownsRow_set hown hx vB'), hl, bys_off hown hx⟩
theorem RQ.setCame {w : World} {x : Nat} {vB : Value} {q : List UInt8} {c g : Int} (h : RQ w x vB q c g) (c' : Int) : RQ (w.setCell ⟨x, 1, none⟩ (.int .u64 c')) x vB q c' g :=
  ⟨(set_off _ _ _ _ _ (by omega)).trans h.c0, World.cell?_setCell_same _ _ _ h.c1, (set_off _ _ _ _ _ (by omega)).trans h.c2, by simpa using h.f0, by simpa using h.f1, by simpa using h.f2, crow_set h.row h.off, h.len, h.off⟩
theorem RQ.setWent {w : World} {x : Nat} {vB : Value} {q : List UInt8} {c g : Int} (h : RQ w x vB q c g) (g' : Int) : RQ (w.setCell ⟨x, 2, none⟩ (.int .u64 g')) x vB q c g' :=
  ⟨(set_off _ _ _ _ _ (by omega)).trans h.c0, (set_off _ _ _ _ _ (by omega)).trans h.c1, World.cell?_setCell_same _ _ _ h.c2, by simpa using h.f0, by simpa using h.f1, by simpa using h.f2, crow_set h.row h.off, h.len, h.off⟩
theorem RQ.setRow {w : World} {x : Nat} {vB vB' : Value} {q q' : List UInt8} {c g : Int} (h : RQ w x vB q c g) (hr : CRow w vB' q') (ho : Off vB' x) (hl : q'.length ≤ 64) : RQ (w.setCell ⟨x, 0, none⟩ vB') x vB' q' c g :=
  ⟨World.cell?_setCell_same _ _ _ h.c0, (set_off _ _ _ _ _ (by omega)).trans h.c1, (set_off _ _ _ _ _ (by omega)).trans h.c2, by simpa using h.f0, by simpa using h.f1, by simpa using h.f2, crow_set hr ho, hl, ho⟩
theorem put_mid {W w2 w : World} {x : Nat} {vB v v2 : Value} {q l : List UInt8} {c g : Int} (h : RQ W x vB q c g) (hown : Bys w2 W.heap.size v2 (q ++ l)) (hb : Below W.heap.size W w2) (hB : W.cell? ⟨w.heap.size, 2, none⟩ = some v) (hz : w.heap.size < W.heap.size) (hf : q.length + l.length ≤ 64) :
    PutMid W x w.heap.size vB v (q ++ l) c g w (w2.setCell ⟨x, 0, none⟩ v2) := by
  have hxl := h.lt
  refine ⟨v2, RQ.put (h.below hb) hown hxl (by simp; omega), fun b hb' _ => bys_off hown (by omega), ?_, (Chg.of_below hb).setCell (by simp) _⟩
  by_cases e : x = w.heap.size
  · rw [e, set_off _ _ _ _ _ (by omega)]
    exact (hb.cell (p := ⟨w.heap.size, 2, none⟩) hz).trans hB
  · rw [set_blk _ _ _ _ _ _ e]
    exact (hb.cell (p := ⟨w.heap.size, 2, none⟩) hz).trans hB

end Go.Proofs.YtinabbdecmjcpaaGreatDoor.Queue

namespace Go.Proofs.YtinabbdecmjcpaaGreatDoor.Queue
open Go.RowKit Go.Proofs.YtinabbdecmjcpaaGreatDoor Go.Proofs.YtinabbdecmjcpaaGreatDoor.Plain Go.Proofs.YtinabbdecmjcpaaGreatDoor.Words Go.Proofs.YtinabbdecmjcpaaGreatDoor.Hex
set_option linter.unusedVariables false

theorem flip_same {P : Program} {f : FuncId} {args : Array Value} {w : World} {v : Value} (h : Calls P f args w fun e w' => e = .returned v ∧ w = w') : Calls P f args w fun e w' => e = .returned v ∧ w' = w := h.mono fun _ _ ⟨he, hw⟩ => ⟨he, hw.symm⟩
theorem crow_form_cap {w : World} {v : Value} {l : List UInt8} (h : CRow w v l) : ∃ a cap, v = .slice a l.length cap ∧ cap ≤ maxLen ∧ (a = none → cap = 0) ∧ l.length ≤ cap := by
  rcases h with ⟨rfl, a, cap, rfl, hn, hm⟩ | ⟨g, o, cap, rfl, h0, h1, h2, _⟩
  · exact ⟨a, cap, rfl, hm, hn, Nat.zero_le _⟩
  · exact ⟨_, cap, rfl, h2, (fun h => by cases h), h1⟩
theorem crow_take {w : World} {a : Option Addr} {cap : Nat} {l : List UInt8} (h : CRow w (.slice a l.length cap) l) (t : Nat) (ht : t ≤ l.length) : CRow w (.slice a t cap) (l.take t) := by
  rcases h with ⟨rfl, a', cap', e, hn, hm⟩ | ⟨g, o, cap', e, h0, h1, h2, hg, hc⟩
  · simp only [List.length_nil, Value.slice.injEq, true_and] at e
    obtain ⟨rfl, rfl⟩ := e
    obtain rfl : t = 0 := by simpa using ht
    exact .inl ⟨rfl, _, _, rfl, hn, hm⟩
  · simp only [Value.slice.injEq, true_and] at e
    obtain ⟨rfl, rfl⟩ := e
    by_cases ht0 : t = 0
    · subst ht0
      exact .inl ⟨rfl, _, _, rfl, (fun h => by cases h), h2⟩
    · have e : (l.take t).length = t := by simp; omega
      exact .inr ⟨g, o, cap, by rw [e], by omega, by omega, h2, hg, fun i hi => by rw [hc i (by omega)]; simp⟩
theorem off_take {a : Option Addr} {len cap b t cap' : Nat} (h : Off (.slice a len cap) b) (ht : t ≤ len) : Off (.slice a t cap') b := by
  intro g o len' cap'' e hl
  cases e
  exact h g o len cap rfl (by omega)

theorem drop_full {w : World} {a : Option Addr} {cap b : Nat} {l : List UInt8} (h : CRow w (.slice a l.length cap) l) (ho : Off (.slice a l.length cap) b) (t : Nat) (ht : t ≤ l.length) (hle : l.length ≤ t) : CRow w (.slice a (l.length - t) 0) (l.drop t) ∧ Off (.slice a (l.length - t) 0) b := by
  obtain rfl : t = l.length := by omega
  rw [List.drop_length, Nat.sub_self]
  exact ⟨.inl ⟨rfl, a, 0, rfl, (fun _ => rfl), Nat.zero_le _⟩, fun g o len cap e hl => by cases e; omega⟩
theorem drop_part {w : World} {a : Option Addr} {cap b : Nat} {l : List UInt8} (h : CRow w (.slice a l.length cap) l) (ho : Off (.slice a l.length cap) b) (t : Nat) (ht : t ≤ l.length) : CRow w (.slice (a.map fun x => x.add t) (l.length - t) (cap - t)) (l.drop t) ∧ Off (.slice (a.map fun x => x.add t) (l.length - t) (cap - t)) b := by
  rcases h with ⟨rfl, a', cap', e, hn, hm⟩ | ⟨g, o, cap', e, h0, h1, h2, hg, hc⟩
  · simp only [List.length_nil, Value.slice.injEq, true_and] at e
    obtain ⟨rfl, rfl⟩ := e
    obtain rfl : t = 0 := by simpa using ht
    refine ⟨.inl ⟨rfl, _, _, rfl, fun h => ?_, by omega⟩, (fun g o len cap e hl => by simp only [Value.slice.injEq, List.length_nil] at e; omega)⟩
    have := hn (by simpa using h)
    omega
  · simp only [Value.slice.injEq, true_and] at e
    obtain ⟨rfl, rfl⟩ := e
    simp only [Option.map_some, addr_add]
    refine ⟨?_, fun g' o' len cap e hl => ?_⟩
    · by_cases e : t = l.length
      · subst e
        rw [List.drop_length, Nat.sub_self]
        exact .inl ⟨rfl, _, _, rfl, (fun h => by cases h), by omega⟩
      · refine .inr ⟨g, o + t, cap - t, by simp, by simp; omega, by simp; omega, by omega, hg, fun i hi => ?_⟩
        simp at hi
        rw [Nat.add_assoc, hc (t + i) (by omega)]
        simp
    · cases e
      exact ho g o _ _ rfl h0

end Go.Proofs.YtinabbdecmjcpaaGreatDoor.Queue

namespace Go.Proofs.YtinabbdecmjcpaaGreatDoor.Queue
open Go.RowKit Go.Proofs.YtinabbdecmjcpaaGreatDoor Go.Proofs.YtinabbdecmjcpaaGreatDoor.Plain Go.Proofs.YtinabbdecmjcpaaGreatDoor.Words Go.Proofs.YtinabbdecmjcpaaGreatDoor.Hex
set_option linter.unusedVariables false

theorem run_append_bytes {w : World} (ty : TypeId) (base : Nat) (v xv : Value) (l l2 : List UInt8) (hown : Bys w base v l) (hrow : CRow w xv l2) (hlen : l.length + l2.length ≤ 1000000) (hbase : base ≤ w.heap.size) :
    ∃ (a' : Option Addr) (cap' : Nat) (w' : World), (Builtin.append_ #[42, 42] ty #[v, xv]).run Tryz.prog w = .ok (.slice a' (l.length + l2.length) cap') w' ∧ Bys w' base (.slice a' (l.length + l2.length) cap') (l ++ l2) ∧ w.grownBy w' v.ownBlock ∧
      ((Value.slice a' (l.length + l2.length) cap').ownBlock = v.ownBlock ∨ (Value.slice a' (l.length + l2.length) cap').ownBlock = some w.heap.size) := by
  obtain ⟨i0, hi, hz0, hz1, hz2⟩ := info_parts info5
  have hex : ∃ v' w', (Builtin.append_ #[42, 42] ty #[v, xv]).run Tryz.prog w = .ok v' w' ∧ Bys w' base v' (l ++ l2) ∧ w.grownBy w' v.ownBlock ∧ (v'.ownBlock = v.ownBlock ∨ v'.ownBlock = some w.heap.size) := by
    rcases hrow with ⟨rfl, ad, cap, rfl, hn, _⟩ | ⟨g, o', cap, rfl, h0, _, _, hg, hc⟩
    · cases ad with
      | none =>
        obtain rfl := hn rfl
        exact ⟨v, w, run_append_owned_none (P := Tryz.prog) (w := w) base 42 ty 5 i0 1 Tryz.underlying42 hi v l.length _ hown, by simpa using hown, ⟨rfl, rfl, rfl, Nat.le_refl _, fun _ _ _ => rfl⟩, .inl rfl⟩
      | some ad =>
        obtain ⟨v', w', h1, h2, h3, _, h5⟩ := run_append_own_at (P := Tryz.prog) w base 42 ty 5 i0 (.int .u8 0) 1 1 Tryz.underlying42 hi hz0 hz1 hz2 rfl (by decide) v l.length _ hown ad 0 cap [] rfl (fun j u hj => by simp at hj) (fun u hu => by simp at hu) (by unfold maxLen; omega) (by omega) hbase
        exact ⟨v', w', h1, by simpa [Bys] using h2, h3, h5⟩
    · obtain ⟨v', w', h1, h2, h3, _, h5⟩ := run_append_own_at (P := Tryz.prog) w base 42 ty 5 i0 (.int .u8 0) 1 1 Tryz.underlying42 hi hz0 hz1 hz2 rfl (by decide) v l.length _ hown ⟨g, o', none⟩ l2.length cap (l2.map bv) (by simp) (fun j u hj => by
          rw [addr_add]
          have hj' : j < l2.length := by
            have := (List.getElem?_eq_some_iff.1 hj).1
            simpa using this
          rw [hc j hj']
          simpa [hj'] using hj) (fun u hu => by
          obtain ⟨c, _, rfl⟩ := List.mem_map.1 hu
          rfl) (by unfold maxLen; omega) (by omega) hbase
      exact ⟨v', w', h1, by simpa [Bys] using h2, h3, h5⟩
  obtain ⟨v', w', hrun, h2, h3, h5⟩ := hex
  obtain ⟨a', cap', e⟩ := brow_form (bys_row h2)
  rw [List.length_append] at e
  subst e
  exact ⟨a', cap', w', hrun, h2, h3, h5⟩

theorem wpList_append_bytes {w : World} {ops : Array Oper} {rest : List Oper} {o : Oper} {a : Act} {Q : Exit → Act → World → Prop} (hgd : o.guard = none) (s x : Operand)
    (ho : o.op = .call { callee := .builtin .append, args := #[s, x], argTypes := #[42, 42] }) (base : Nat) (v xv : Value) (l l2 : List UInt8) (hs : a.eval s = v) (hx : a.eval x = xv) (hown : Bys w base v l) (hrow : CRow w xv l2)
    (hlen : l.length + l2.length ≤ 1000000) (hbase : base ≤ w.heap.size)
    (h : ∀ (a' : Option Addr) (cap' : Nat) w', Bys w' base (.slice a' (l.length + l2.length) cap') (l ++ l2) → w.grownBy w' v.ownBlock → ((Value.slice a' (l.length + l2.length) cap').ownBlock = v.ownBlock ∨ (Value.slice a' (l.length + l2.length) cap').ownBlock = some w.heap.size) → wpList Tryz.prog ops Q rest (a.put o.dst (.slice a' (l.length + l2.length) cap')) w') : wpList Tryz.prog ops Q (o :: rest) a w := by
  refine wpList_plain hgd fun K hK => ?_
  obtain ⟨a', cap', w', hrun, h2, h3, h5⟩ := run_append_bytes o.type base v xv l l2 hown hrow hlen hbase
  unfold Oper.wp
  simp [execOp, ho, resolve, invoke, builtin, hs, hx, hrun, Result.andThen]
  exact hK _ _ (h a' cap' w' h2 h3 h5)

/-- Two rows of the call's own that lie apart. -/
def Apart (v u : Value) : Prop := ∀ g, v.ownBlock = some g → u.ownBlock ≠ some g
theorem Apart.symm {v u : Value} (h : Apart v u) : Apart u v := fun g hu hv => h g hv hu
theorem bys_grown {w w' : World} {B : Nat} {v u : Value} {l : List UInt8} (h : Bys w B v l) (hg : w.grownBy w' u.ownBlock) (ha : Apart v u) : Bys w' B v l :=
  World.ownsRow.kept h hg (by
    cases hv : v.ownBlock with
    | none => exact .inl rfl
    | some g => exact .inr fun e => ha g hv e.symm)
theorem bys_lt {w : World} {B g : Nat} {v : Value} {l : List UInt8} (h : Bys w B v l) (hg : v.ownBlock = some g) : B ≤ g ∧ g < w.heap.size := World.ownsRow.lt h g hg
theorem apart_new {w : World} {B : Nat} {v u v' : Value} {l : List UInt8} (h : Bys w B u l) (ha : Apart v u) (hv : v'.ownBlock = v.ownBlock ∨ v'.ownBlock = some w.heap.size) : Apart v' u := by
  intro g hg hu
  rcases hv with e | e
  · rw [e] at hg; exact ha g hg hu
  · rw [e] at hg
    cases hg
    have := (bys_lt h hu).2
    omega
theorem bys_chg {w w' : World} {B : Nat} {bs : List Nat} {v : Value} {l : List UInt8} (h : Bys w B v l) (hc : Chg bs w w') (hb : ∀ b ∈ bs, b < B) : Bys w' B v l := by
  obtain ⟨h1, h2⟩ := h
  refine ⟨h1, ?_⟩
  rcases h2 with h2 | ⟨g, cap, cur, a, b, d, r⟩
  · exact .inl h2
  · exact .inr ⟨g, cap, cur, a, b, (hc.block g (lt_of_block d) (fun x => by have := hb g x; omega)).trans d, r⟩
end Go.Proofs.YtinabbdecmjcpaaGreatDoor.Queue

namespace Go.Proofs.YtinabbdecmjcpaaGreatDoor.Ev
open Go.RowKit Go.Proofs.YtinabbdecmjcpaaGreatDoor Go.Proofs.YtinabbdecmjcpaaGreatDoor.Plain Go.Proofs.YtinabbdecmjcpaaGreatDoor.Words Go.Proofs.YtinabbdecmjcpaaGreatDoor.Hex Go.Proofs.YtinabbdecmjcpaaGreatDoor.Queue
set_option linter.unusedVariables false

def ClonePost (l : List UInt8) (w : World) (e : Ending) (w' : World) : Prop := ∃ v', e = .returned v' ∧ Bys w' w.heap.size v' l ∧ Below w.heap.size w w'
set_option maxRecDepth 100000 in
theorem clone_any (l : List UInt8) (v : Value) (w : World) (hl : l.length ≤ 100000) (h : CRow w v l) : Calls Tryz.prog 88 #[v] w (ClonePost l w) := by
  obtain ⟨a, cap, hv, hcap, hn, hlc⟩ := crow_form_cap h
  have hne := fun (W : World) (a : Option Addr) (n c : Nat) => Lib.run_eql_slice_nil (P := Tryz.prog) W 42 5 a n c 0 0 Tryz.underlying42
  cases a with
  | none =>
    obtain rfl := hn rfl
    obtain rfl : l = [] := List.length_eq_zero_iff.1 (by omega)
    subst hv
    clear h
    simp only [List.length_nil]
    go_enter Tryz.func88, Tryz.ntmps88
    go_wp2
    go_ret
    exact ⟨_, rfl, World.ownsRow_nil _ _ _ _, Below.refl _ _⟩
  | some ad =>
    subst hv
    have H := Lib.hid h
    clear h hn
    go_enter Tryz.func88, Tryz.ntmps88
    go_wp2_with (at_builtin; refine wpList_append_bytes rfl (.tmp 5) (.tmp 6) rfl w.heap.size _ _ [] l rfl rfl (bys_empty _ _ (Nat.le_refl _)) (crow_below H.out ((Below.refl _ _).alloc (Nat.le_refl _) _)) (by simp; omega) (by simp) ?_; intro a' cap' w' h1 h2 h3)
    go_ret
    refine ⟨_, rfl, by simpa using h1, ?_⟩
    exact ((Below.refl _ _).alloc (Nat.le_refl _) _).grown h2 (by simp) (fun k hk => by cases hk; exact Nat.le_refl _)
end Go.Proofs.YtinabbdecmjcpaaGreatDoor.Ev
