/- The contract of the reference's Do of layer 25: a step on a list of bytes. -/
import Derived.Test.YtinabbdecmjcpaaRefQueue
import Derived.Deep.RegionLaw
namespace Go.Proofs.Ytinabbdecmjcpaa.Queue
open Go.RowKit Go.Proofs.Ytinabbdecmjcpaa Go.Proofs.Ytinabbdecmjcpaa.Plain Go.Proofs.Ytinabbdecmjcpaa.Words Go.Proofs.Ytinabbdecmjcpaa.Hex
set_option linter.unusedVariables false

/-- The reference's queue in memory. -/
structure RQ (w : World) (x : Nat) (vB : Value) (q : List UInt8) (c g : Int) : Prop where
  c0 : w.cell? ⟨x, 0, none⟩ = some vB
  c1 : w.cell? ⟨x, 1, none⟩ = some (.int .u64 c)
  c2 : w.cell? ⟨x, 2, none⟩ = some (.int .u64 g)
  f0 : w.frozen? ⟨x, 0, none⟩ = false
  f1 : w.frozen? ⟨x, 1, none⟩ = false
  f2 : w.frozen? ⟨x, 2, none⟩ = false
  row : CRow w vB q
  len : q.length ≤ 64
  off : Off vB x
theorem RQ.lt {w : World} {x : Nat} {vB : Value} {q : List UInt8} {c g : Int} (h : RQ w x vB q c g) : x < w.heap.size := World.block_lt_of_cell? _ _ h.c0
theorem RQ.chg {w w' : World} {x : Nat} {bs : List Nat} {vB : Value} {q : List UInt8} {c g : Int} (h : RQ w x vB q c g) (hc : Chg bs w w') (hx : x ∉ bs) (ho : ∀ b ∈ bs, Off vB b) : RQ w' x vB q c g :=
  ⟨(hc.cell (p := ⟨x, 0, none⟩) h.lt hx).trans h.c0, (hc.cell (p := ⟨x, 1, none⟩) h.lt hx).trans h.c1, (hc.cell (p := ⟨x, 2, none⟩) h.lt hx).trans h.c2, (hc.frozen (p := ⟨x, 0, none⟩) h.lt hx).trans h.f0, (hc.frozen (p := ⟨x, 1, none⟩) h.lt hx).trans h.f1, (hc.frozen (p := ⟨x, 2, none⟩) h.lt hx).trans h.f2, crow_chg h.row hc ho, h.len, h.off⟩
theorem RQ.below {w w' : World} {x : Nat} {vB : Value} {q : List UInt8} {c g : Int} (h : RQ w x vB q c g) (hb : Below w.heap.size w w') : RQ w' x vB q c g := h.chg (bs := []) (Chg.of_below hb) (by simp) (by simp)

/-- What the reference's Do leaves. -/
def RDoPost (x : Nat) (vB : Value) (t : Told) (w : World) (e : Ending) (w' : World) : Prop :=
  ∃ v vB', e = .returned (.tuple #[v, .int .i64 t.num, .int .i64 t.err]) ∧ CRow w' v t.out ∧ RQ w' x vB' t.q t.came t.went ∧ (∀ b, b < w.heap.size → Off vB b → Off vB' b) ∧ Chg [x] w w'

/-- One append of bytes, as a step of a region that draws. -/
theorem step_append_bytes {ops : Array Oper} {o : Oper} {a : Act} {K : Act → World → Prop} {Q : Exit → Act → World → Prop} {E : Prop} {w : World} (hgd : o.guard = none) (s x : Operand)
    (ho : o.op = .call { callee := .builtin .append, args := #[s, x], argTypes := #[22, 22] }) (base : Nat) (v xv : Value) (l l2 : List UInt8) (hs : a.eval s = v) (hx : a.eval x = xv) (hown : Bys w base v l) (hrow : CRow w xv l2)
    (hlen : l.length + l2.length ≤ 1000000) (hbase : base ≤ w.heap.size) (h : ∀ (a' : Option Addr) (cap' : Nat) w', Bys w' base (.slice a' (l.length + l2.length) cap') (l ++ l2) → w.grownBy w' v.ownBlock → K (a.put o.dst (.slice a' (l.length + l2.length) cap')) w') :
    if Region.wanted o (yielded ops a.tmps) = true then Oper.wp Try.prog o a w K Q else E := by
  obtain ⟨i0, hi, hz0, hz1, hz2⟩ := info_parts info5
  have hw : Region.wanted o (yielded ops a.tmps) = true := by simp [Region.wanted, hgd]
  rw [if_pos hw]
  have hex : ∃ v' w', (Builtin.append_ #[22, 22] o.type #[v, xv]).run Try.prog w = .ok v' w' ∧ Bys w' base v' (l ++ l2) ∧ w.grownBy w' v.ownBlock := by
    rcases hrow with ⟨rfl, ad, cap, rfl, hn, _⟩ | ⟨g, o', cap, rfl, h0, _, _, hg, hc⟩
    · cases ad with
      | none =>
        obtain rfl := hn rfl
        refine ⟨v, w, run_append_owned_none (P := Try.prog) (w := w) base 22 o.type 5 i0 1 Try.underlying22 hi v l.length _ hown, by simpa using hown, ⟨rfl, rfl, rfl, Nat.le_refl _, fun _ _ _ => rfl⟩⟩
      | some ad =>
        obtain ⟨v', w', h1, h2, h3, _⟩ := run_append_own (P := Try.prog) w base 22 o.type 5 i0 (.int .u8 0) 1 1 Try.underlying22 hi hz0 hz1 hz2 rfl (by decide) v l.length _ hown ad 0 cap [] rfl (fun j u hj => by simp at hj) (fun u hu => by simp at hu) (by unfold maxLen; omega) (by omega) hbase
        exact ⟨v', w', h1, by simpa [Bys] using h2, h3⟩
    · obtain ⟨v', w', h1, h2, h3, _⟩ := run_append_own (P := Try.prog) w base 22 o.type 5 i0 (.int .u8 0) 1 1 Try.underlying22 hi hz0 hz1 hz2 rfl (by decide) v l.length _ hown ⟨g, o', none⟩ l2.length cap (l2.map bv) (by simp) (fun j u hj => by
          rw [addr_add]
          have hj' : j < l2.length := by
            have := (List.getElem?_eq_some_iff.1 hj).1
            simpa using this
          rw [hc j hj']
          simpa [hj'] using hj) (fun u hu => by
          obtain ⟨c, _, rfl⟩ := List.mem_map.1 hu
          rfl) (by unfold maxLen; omega) (by omega) hbase
      exact ⟨v', w', h1, by simpa [Bys] using h2, h3⟩
  obtain ⟨v', w', hrun, h2, h3⟩ := hex
  obtain ⟨a', cap', e⟩ := brow_form (bys_row h2)
  rw [List.length_append] at e
  subst e
  have hK := h a' cap' w' h2 h3
  unfold Oper.wp
  simp [execOp, ho, resolve, invoke, builtin, hs, hx, hrun, Result.andThen]
  exact hK

theorem bys_empty (X : World) (B : Nat) (h : B ≤ X.heap.size) : Bys (X.alloc (.cells #[] 5)) B (.slice (some ⟨X.heap.size, 0, none⟩) 0 0) [] :=
  ⟨rfl, .inr ⟨X.heap.size, 0, #[], rfl, h, by show (X.heap.push _)[X.heap.size]? = _; simp, Nat.le_refl _, Nat.zero_le _, rfl, rfl⟩⟩
theorem crow_drew {w : World} {v : Value} {l : List UInt8} (h : CRow w v l) : CRow w.drew v l := h
theorem bys_drew {w : World} {B : Nat} {v : Value} {l : List UInt8} (h : Bys w B v l) : Bys w.drew B v l := h
theorem RQ.drew {w : World} {x : Nat} {vB : Value} {q : List UInt8} {c g : Int} (h : RQ w x vB q c g) : RQ w.drew x vB q c g := ⟨h.c0, h.c1, h.c2, h.f0, h.f1, h.f2, h.row, h.len, h.off⟩

theorem rq_drewN {w : World} {x : Nat} {vB : Value} {q : List UInt8} {c g : Int} (h : RQ w x vB q c g) (n : Nat) : RQ (w.drewN n) x vB q c g := ⟨h.c0, h.c1, h.c2, h.f0, h.f1, h.f2, h.row, h.len, h.off⟩
theorem crow_drewN {w : World} {v : Value} {l : List UInt8} (h : CRow w v l) (n : Nat) : CRow (w.drewN n) v l := h
theorem crow_grow1 {w : World} {v : Value} {l : List UInt8} {o : Obj} (h : CRow w v l) : CRow (w.alloc o).drew v l := crow_drew (crow_below h ((Below.refl _ _).alloc (Nat.le_refl _) _))

/-- What stands when the bytes have been put. -/
def PutMid (w : World) (x B : Nat) (vB v : Value) (q : List UInt8) (c g : Int) (w0 : World) (wx : World) : Prop :=
  ∃ vB', RQ wx x vB' q c g ∧ (∀ b, b < w0.heap.size → Off vB b → Off vB' b) ∧ wx.cell? ⟨B, 2, none⟩ = some v ∧ Chg [x] w wx

theorem app_one {W w1 : World} {x B : Nat} {a b : Value} (hg : ((W.alloc (.cells #[] 5)).drew).grownBy w1 (Value.slice (some ⟨W.heap.size, 0, none⟩) 0 0).ownBlock) (h0 : W.cell? ⟨x, 0, none⟩ = some a) (hB : W.cell? ⟨B, 2, none⟩ = some b) (hf : W.frozen? ⟨x, 0, none⟩ = false) :
    Below W.heap.size W w1 ∧ w1.cell? ⟨x, 0, none⟩ = some a ∧ w1.cell? ⟨B, 2, none⟩ = some b ∧ w1.frozen? ⟨x, 0, none⟩ = false ∧ x < w1.heap.size ∧ B < w1.heap.size := by
  have hb : Below W.heap.size W w1 := Below.grown (((Below.refl _ _).alloc (Nat.le_refl _) _).drew) hg (by simp) (fun k hk => by simp [Value.ownBlock] at hk; omega)
  have l0 := World.block_lt_of_cell? _ _ h0
  have l1 := World.block_lt_of_cell? _ _ hB
  exact ⟨hb, (hb.cell (p := ⟨x, 0, none⟩) l0).trans h0, (hb.cell (p := ⟨B, 2, none⟩) l1).trans hB, (hb.frozen (p := ⟨x, 0, none⟩) l0).trans hf, Nat.lt_of_lt_of_le l0 hb.size, Nat.lt_of_lt_of_le l1 hb.size⟩
theorem app_two {W w1 w2 : World} {x B : Nat} {a b v1 : Value} {q : List UInt8} (hg : w1.grownBy w2 v1.ownBlock) (hown : Bys w1 W.heap.size v1 q) (hb1 : Below W.heap.size W w1) (h0 : W.cell? ⟨x, 0, none⟩ = some a) (hB : W.cell? ⟨B, 2, none⟩ = some b) (hf : W.frozen? ⟨x, 0, none⟩ = false) :
    Below W.heap.size W w2 ∧ w2.cell? ⟨x, 0, none⟩ = some a ∧ w2.cell? ⟨B, 2, none⟩ = some b ∧ w2.frozen? ⟨x, 0, none⟩ = false ∧ x < w2.heap.size ∧ B < w2.heap.size := by
  have hb : Below W.heap.size W w2 := hb1.grown hg hb1.size (fun k hk => (World.ownsRow.lt hown k hk).1)
  have l0 := World.block_lt_of_cell? _ _ h0
  have l1 := World.block_lt_of_cell? _ _ hB
  exact ⟨hb, (hb.cell (p := ⟨x, 0, none⟩) l0).trans h0, (hb.cell (p := ⟨B, 2, none⟩) l1).trans hB, (hb.frozen (p := ⟨x, 0, none⟩) l0).trans hf, Nat.lt_of_lt_of_le l0 hb.size, Nat.lt_of_lt_of_le l1 hb.size⟩
theorem set_off' (W : World) (b i j : Nat) (v : Value) (h : i ≠ j) : (W.setCell ⟨b, i, none⟩ v).cell? ⟨b, j, none⟩ = W.cell? ⟨b, j, none⟩ := set_off W b i j v h
theorem set_blk (W : World) (b c i j : Nat) (v : Value) (h : b ≠ c) : (W.setCell ⟨b, i, none⟩ v).cell? ⟨c, j, none⟩ = W.cell? ⟨c, j, none⟩ := World.cell?_setCell_other _ _ _ _ (fun e => h (congrArg Addr.block e))
theorem crow_set {w : World} {v u : Value} {l : List UInt8} {x i : Nat} (h : CRow w v l) (ho : Off v x) : CRow (w.setCell ⟨x, i, none⟩ u) v l := by
  rcases h with h | ⟨g, o, cap, rfl, h0, h1, h2, hg, hcl⟩
  · exact .inl h
  · exact .inr ⟨g, o, cap, rfl, h0, h1, h2, by simpa using hg, fun j hj => (set_blk _ _ _ _ _ _ (fun e => ho g o _ cap rfl h0 e.symm)).trans (hcl j hj)⟩
/-- A new row is put into the queue. -/
theorem RQ.put {w : World} {x : Nat} {vB vB' : Value} {q q' : List UInt8} {c g : Int} {B : Nat} (h : RQ w x vB q c g) (hown : Bys w B vB' q') (hx : x < B) (hl : q'.length ≤ 64) : RQ (w.setCell ⟨x, 0, none⟩ vB') x vB' q' c g :=
  ⟨World.cell?_setCell_same _ _ _ h.c0, (set_off _ _ _ _ _ (by omega)).trans h.c1, (set_off _ _ _ _ _ (by omega)).trans h.c2, by simpa using h.f0, by simpa using h.f1, by simpa using h.f2, bys_crow (ownsRow_set hown hx vB'), hl, bys_off hown hx⟩
theorem RQ.setCame {w : World} {x : Nat} {vB : Value} {q : List UInt8} {c g : Int} (h : RQ w x vB q c g) (c' : Int) : RQ (w.setCell ⟨x, 1, none⟩ (.int .u64 c')) x vB q c' g :=
  ⟨(set_off _ _ _ _ _ (by omega)).trans h.c0, World.cell?_setCell_same _ _ _ h.c1, (set_off _ _ _ _ _ (by omega)).trans h.c2, by simpa using h.f0, by simpa using h.f1, by simpa using h.f2, crow_set h.row h.off, h.len, h.off⟩
theorem RQ.setWent {w : World} {x : Nat} {vB : Value} {q : List UInt8} {c g : Int} (h : RQ w x vB q c g) (g' : Int) : RQ (w.setCell ⟨x, 2, none⟩ (.int .u64 g')) x vB q c g' :=
  ⟨(set_off _ _ _ _ _ (by omega)).trans h.c0, (set_off _ _ _ _ _ (by omega)).trans h.c1, World.cell?_setCell_same _ _ _ h.c2, by simpa using h.f0, by simpa using h.f1, by simpa using h.f2, crow_set h.row h.off, h.len, h.off⟩
theorem RQ.setRow {w : World} {x : Nat} {vB vB' : Value} {q q' : List UInt8} {c g : Int} (h : RQ w x vB q c g) (hr : CRow w vB' q') (ho : Off vB' x) (hl : q'.length ≤ 64) : RQ (w.setCell ⟨x, 0, none⟩ vB') x vB' q' c g :=
  ⟨World.cell?_setCell_same _ _ _ h.c0, (set_off _ _ _ _ _ (by omega)).trans h.c1, (set_off _ _ _ _ _ (by omega)).trans h.c2, by simpa using h.f0, by simpa using h.f1, by simpa using h.f2, crow_set hr ho, hl, ho⟩
theorem put_mid {W w2 w : World} {x : Nat} {vB v v2 : Value} {q l : List UInt8} {c g : Int} (h : RQ W x vB q c g) (hown : Bys w2 W.heap.size v2 (q ++ l)) (hb : Below W.heap.size W w2) (hB : W.cell? ⟨w.heap.size, 2, none⟩ = some v) (hz : w.heap.size < W.heap.size) (hf : q.length + l.length ≤ 64) :
    PutMid W x w.heap.size vB v (q ++ l) c g w (w2.setCell ⟨x, 0, none⟩ v2) := by
  have hxl := h.lt
  refine ⟨v2, RQ.put (h.below hb) hown hxl (by simp; omega), fun b hb' _ => bys_off hown (by omega), ?_, (Chg.of_below hb).setCell (by simp) _⟩
  by_cases e : x = w.heap.size
  · rw [e, set_off _ _ _ _ _ (by omega)]
    exact (hb.cell (p := ⟨w.heap.size, 2, none⟩) hz).trans hB
  · rw [set_blk _ _ _ _ _ _ e]
    exact (hb.cell (p := ⟨w.heap.size, 2, none⟩) hz).trans hB

set_option maxRecDepth 100000 in
set_option maxHeartbeats 1000000 in
theorem rdo_push {w : World} {x : Nat} {vB : Value} {q : List UInt8} {c g : Int} (n : Int) (l : List UInt8) (v : Value) (h : RQ w x vB q c g) (hv : CRow w v l) (ho : Off v x) (hc0 : 0 ≤ c) (hc1 : c ≤ 1000000000) (hf : q.length + l.length ≤ 64) :
    Calls Try.prog 24 #[.pointer (some ⟨x, 0, none⟩), .agg #[.int .i64 1, .int .i64 n, v]] w (RDoPost x vB ⟨[], 0, 0, q ++ l, c + l.length, g⟩ w) := by
  have ba : Below w.heap.size w (w.alloc (.cells #[.int .i64 1, .int .i64 n, v] 48)) := (Below.refl _ _).alloc (Nat.le_refl _) _
  have H := Lib.hid (h.below ba)
  have HV := Lib.hid (crow_below hv ba)
  have HO := Lib.hid ho
  obtain ⟨av, capv, rfl⟩ := crow_form hv
  obtain ⟨aB, capB, rfl⟩ := crow_form h.row
  have hxl := h.lt
  clear h hv ho
  have r0 := H.out.c0
  have r1 := H.out.c1
  have hql := H.out.len
  go_enter Try.func24, Try.ntmps24
  go_wp2_with fail
  go_quiet (fail)
  go_upto_region 5 with fail
  have b1 : Below w.heap.size w ((w.alloc (.cells #[.int .i64 1, .int .i64 n, .slice av l.length capv] 48)).drewN nq) := below_drewN ba nq
  have cB : ((w.alloc (.cells #[.int .i64 1, .int .i64 n, .slice av l.length capv] 48)).drewN nq).cell? ⟨w.heap.size, 2, none⟩ = some (.slice av l.length capv) := by
    show (w.alloc _).cell? _ = _
    rw [World.cell?_alloc_at _ _ _ _ rfl]; rfl
  have hz1 : ((w.alloc (.cells #[.int .i64 1, .int .i64 n, .slice av l.length capv] 48)).drewN nq).heap.size = w.heap.size + 1 := by show (w.alloc _).heap.size = _; simp
  have H1 := Lib.hid (rq_drewN H.out nq)
  have HV1 := Lib.hid (crow_drewN HV.out nq)
  clear ba H HV r0 r1
  generalize (w.alloc (.cells #[.int .i64 1, .int .i64 n, .slice av l.length capv] 48)).drewN nq = W1 at *
  have HZ := Lib.hid hz1
  have hz2 : w.heap.size < W1.heap.size := by omega
  clear hz1
  have r0 := H1.out.c0
  have r3 := H1.out.f0
  have hx1 : x < W1.heap.size := by omega
  go_cut [] (fun wx => PutMid W1 x w.heap.size (.slice aB q.length capB) (.slice av l.length capv) (q ++ l) c g w wx)
  case first =>
    go_region_law (first
      | (refine step_append_bytes (by rfl) (.tmp 24) (.tmp 28) (by rfl) W1.heap.size _ _ [] q (by rfl) (by rfl) (by exact bys_drew (bys_empty _ _ (Nat.le_refl _))) (by exact crow_grow1 H1.out.row) (by simp; omega) (by simp) ?_; intro a1 cap1 w1 hown1 hgrow1; simp only [List.length_nil, Nat.zero_add, List.nil_append] at hown1 ⊢; obtain ⟨hb1, p0, p1, p2, p3, p4⟩ := app_one hgrow1 r0 cB r3; have hs1 := hb1.size; clear hgrow1)
      | (refine step_append_bytes (by rfl) (.tmp 29) (.tmp 31) (by rfl) W1.heap.size _ _ q l (by rfl) (by rfl) (by exact hown1) (by exact crow_below HV1.out hb1) (by omega) (by exact hs1) ?_; intro a2 cap2 w2 hown2 hgrow2; obtain ⟨hb2, y0, y1, y2, y3, y4⟩ := app_two hgrow2 hown1 hb1 r0 cB r3; clear hgrow2))
    all_goals
      go_wp2_with fail
      go_meet
      exact put_mid H1.out hown2 hb2 cB hz2 hf
  case rest =>
    clear r0 r3 cB hx1
    obtain ⟨vB', hR, hof, hB2, hch⟩ := hcut
    have s1 := hR.c1
    have s2 := hR.f1
    have HR := Lib.hid hR
    have HF := Lib.hid hof
    have hq1 := H1.out.len
    clear hR hof
    go_wp2_with fail
    go_region
    go_wp2
    go_ret3
    refine ⟨_, vB', rfl, .inl ⟨rfl, none, 0, rfl, (fun _ => rfl), Nat.zero_le _⟩, (HR.out.setCame (c + l.length)).drew, HF.out, ?_⟩
    exact (((Chg.of_below b1).trans hch).setCell (p := ⟨x, 1, none⟩) (by simp) _).drew
end Go.Proofs.Ytinabbdecmjcpaa.Queue
