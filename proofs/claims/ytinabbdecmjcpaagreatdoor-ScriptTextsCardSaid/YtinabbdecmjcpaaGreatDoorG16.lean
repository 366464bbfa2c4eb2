/- What was read so far, in memory: a reader's block, its tenants and events in rows of the call's own; and one append to such a row as a step. What a reader is when an event or a tenant was put behind its rows, or a number into its cells. The contract of the reader's take: what a line without its end does to what was read so far. The contract of the reader's take, at the lines of a setup; and at any line. -/
import Derived.Maps.AppendAt
import Derived.Deep.RegionLaw
import Derived.Test.YtinabbdecmjcpaaGreatDoorG15
import Derived.Test.YtinabbdecmjcpaaGreatDoorGEvParse
namespace Go.Proofs.YtinabbdecmjcpaaGreatDoor.Script
open Go.RowKit Go.Proofs.YtinabbdecmjcpaaGreatDoor Go.Proofs.YtinabbdecmjcpaaGreatDoor.Plain Go.Proofs.YtinabbdecmjcpaaGreatDoor.Words Go.Proofs.YtinabbdecmjcpaaGreatDoor.Named Go.Proofs.YtinabbdecmjcpaaGreatDoor.Hex Go.Proofs.YtinabbdecmjcpaaGreatDoor.Number Go.Proofs.YtinabbdecmjcpaaGreatDoor.Queue Go.Proofs.YtinabbdecmjcpaaGreatDoor.Line Go.Proofs.YtinabbdecmjcpaaGreatDoor.Ev
set_option linter.unusedVariables false

/-- Blocks of cells, but for some, lie as they lay. -/
structure CK (ex : List Nat) (w w' : World) : Prop where
  size : w.heap.size ≤ w'.heap.size
  block : ∀ b o, w.heap[b]? = some o → o.isCells = true → b ∉ ex → w'.heap[b]? = w.heap[b]?
theorem CK.of_below {ex : List Nat} {w w' : World} (h : Below w.heap.size w w') : CK ex w w' := ⟨h.size, fun b o hb _ _ => h.block b (Array.getElem?_eq_some_iff.1 hb).1⟩
theorem CK.of_kept {B N : Nat} {w w' : World} (h : Kept B N w w') : CK [B] w w' := ⟨h.size, fun b o hb hc hn => h.cells hb hc (by simpa using hn)⟩
theorem CK.of_chg {bs : List Nat} {w w' : World} (h : Chg bs w w') : CK bs w w' := ⟨h.size, fun b o hb hc hn => h.block b (Array.getElem?_eq_some_iff.1 hb).1 hn⟩
theorem CK.mono {a b : List Nat} {w w' : World} (h : CK a w w') (hs : ∀ x ∈ a, x ∈ b) : CK b w w' := ⟨h.size, fun k o hk hc hn => h.block k o hk hc (fun e => hn (hs k e))⟩
theorem CK.cell {ex : List Nat} {w w' : World} (h : CK ex w w') {b i : Nat} {v : Value} (hc : w.cell? ⟨b, i, none⟩ = some v) (hb : b ∉ ex) : w'.cell? ⟨b, i, none⟩ = some v := by
  obtain ⟨o, ho, hcs⟩ := cells_of_cell hc
  exact (World.cell?_of_block (w := w) (h.block b o ho hcs hb)).trans hc
theorem CK.frozen {ex : List Nat} {w w' : World} (h : CK ex w w') {b i j : Nat} {v : Value} {f : Bool} (hc : w.cell? ⟨b, j, none⟩ = some v) (hb : b ∉ ex) (hf : w.frozen? ⟨b, i, none⟩ = f) : w'.frozen? ⟨b, i, none⟩ = f := by
  obtain ⟨o, ho, hcs⟩ := cells_of_cell hc
  exact (World.frozen?_of_block (w := w) (a := ⟨b, i, none⟩) (h.block b o ho hcs hb)).trans hf
theorem crow_ck {ex : List Nat} {w w' : World} {v : Value} {l : List UInt8} (h : CRow w v l) (hc : CK ex w w') (ho : ∀ b ∈ ex, Off v b) : CRow w' v l := by
  rcases h with h | ⟨g, o, cap, rfl, h0, h1, h2, hg, hcl⟩
  · exact .inl h
  · exact .inr ⟨g, o, cap, rfl, h0, h1, h2, Nat.lt_of_lt_of_le hg hc.size, fun i hi => hc.cell (hcl i hi) (fun hb => ho g hb g o _ cap rfl h0 rfl)⟩
theorem row_ck {ex : List Nat} {w w' : World} {base e size n : Nat} {v : Value} {xs : List Value} (h : w.ownsRow base e size v n xs) (hc : CK ex w w') (ho : ∀ b ∈ ex, v.ownBlock ≠ some b) : w'.ownsRow base e size v n xs := by
  obtain ⟨h1, h2⟩ := h
  refine ⟨h1, ?_⟩
  rcases h2 with h2 | ⟨g, cap, cur, rfl, hb, hg, r⟩
  · exact .inl h2
  · exact .inr ⟨g, cap, cur, rfl, hb, (hc.block g _ hg rfl (fun hx => ho g hx rfl)).trans hg, r⟩

/-- Events as cells. -/
def flatE : List Ev → List Value → List Value
  | e :: es, d :: ds => .int .i64 e.kind :: .int .i64 e.session :: .int .i64 e.stream :: .string e.tenant :: .int .u64 (e.n : Int) :: .int .i64 e.m :: .int .u64 (e.bits : Int) :: d :: flatE es ds
  | _, _ => []
theorem flatE_snoc : ∀ (es : List Ev) (ds : List Value) (e : Ev) (d : Value), ds.length = es.length → flatE (es ++ [e]) (ds ++ [d]) = flatE es ds ++ [.int .i64 e.kind, .int .i64 e.session, .int .i64 e.stream, .string e.tenant, .int .u64 (e.n : Int), .int .i64 e.m, .int .u64 (e.bits : Int), d]
  | [], [], e, d, _ => rfl
  | [], _ :: _, e, d, h => by simp at h
  | _ :: _, [], e, d, h => by simp at h
  | f :: es, c :: ds, e, d, h => by
    simp only [List.cons_append, flatE]
    rw [flatE_snoc es ds e d (by simpa using h)]
/-- Tenants as cells. -/
def flatT : List Ten → List Value → List Value
  | t :: ts, k :: ks => .string t.name :: k :: flatT ts ks
  | _, _ => []
theorem flatT_snoc : ∀ (ts : List Ten) (ks : List Value) (t : Ten) (k : Value), ks.length = ts.length → flatT (ts ++ [t]) (ks ++ [k]) = flatT ts ks ++ [.string t.name, k]
  | [], [], t, k, _ => rfl
  | [], _ :: _, t, k, h => by simp at h
  | _ :: _, [], t, k, h => by simp at h
  | u :: ts, c :: ks, t, k, h => by
    simp only [List.cons_append, flatT]
    rw [flatT_snoc ts ks t k (by simpa using h)]
/-- Rows of bytes, each where its value says, off some blocks. -/
def Rows (w : World) (ls : List (List UInt8)) (ds : List Value) (bad : Nat → Prop) : Prop := ds.length = ls.length ∧ ∀ (i : Nat) (l : List UInt8) (d : Value), ls[i]? = some l → ds[i]? = some d → CRow w d l ∧ ∀ b, bad b → Off d b
theorem Rows.snoc {w : World} {ls : List (List UInt8)} {ds : List Value} {bad : Nat → Prop} {l : List UInt8} {d : Value} (h : Rows w ls ds bad) (hd : CRow w d l) (ho : ∀ b, bad b → Off d b) : Rows w (ls ++ [l]) (ds ++ [d]) bad := by
  refine ⟨by simp [h.1], fun i l' d' hl' hd' => ?_⟩
  by_cases hi : i < ls.length
  · rw [List.getElem?_append_left hi] at hl'
    rw [List.getElem?_append_left (by rw [h.1]; exact hi)] at hd'
    exact h.2 i l' d' hl' hd'
  · rw [List.getElem?_append_right (by omega)] at hl'
    rw [List.getElem?_append_right (by rw [h.1]; omega), h.1] at hd'
    have h0 : i - ls.length = 0 := by
      have := (List.getElem?_eq_some_iff.1 hl').1
      simp at this; omega
    rw [h0] at hl' hd'
    cases Option.some.inj hl'
    cases Option.some.inj hd'
    exact ⟨hd, ho⟩
theorem Rows.ck {ex : List Nat} {w w' : World} {ls : List (List UInt8)} {ds : List Value} {bad : Nat → Prop} (h : Rows w ls ds bad) (hc : CK ex w w') (hb : ∀ b ∈ ex, bad b) : Rows w' ls ds bad :=
  ⟨h.1, fun i l d hl hd => ⟨crow_ck (h.2 i l d hl hd).1 hc (fun b hx => (h.2 i l d hl hd).2 b (hb b hx)), (h.2 i l d hl hd).2⟩⟩
theorem Rows.weaken {w : World} {ls : List (List UInt8)} {ds : List Value} {bad bad' : Nat → Prop} (h : Rows w ls ds bad) (hb : ∀ b, bad' b → bad b ∨ w.heap.size ≤ b) : Rows w ls ds bad' :=
  ⟨h.1, fun i l d hl hd => ⟨(h.2 i l d hl hd).1, fun b hx => by
    rcases hb b hx with e | e
    · exact (h.2 i l d hl hd).2 b e
    · exact off_old (h.2 i l d hl hd).1 b e⟩⟩

/-- The blocks that a reader's call may write, and some that it may not. -/
def bad (ex : List Nat) (r : Nat) (vt ve : Value) (b : Nat) : Prop := b = r ∨ vt.ownBlock = some b ∨ ve.ownBlock = some b ∨ b ∈ ex
/-- A reader at a block. -/
structure RdIs (w : World) (n0 : Nat) (ex : List Nat) (r : Nat) (st : Rd) (vt ve : Value) (ks ds : List Value) : Prop where
  c0 : w.cell? ⟨r, 0, none⟩ = some vt
  c1 : w.cell? ⟨r, 1, none⟩ = some (.int .i64 st.cap)
  c2 : w.cell? ⟨r, 2, none⟩ = some (.int .i64 st.sess)
  c3 : w.cell? ⟨r, 3, none⟩ = some ve
  fz : ∀ o, w.frozen? ⟨r, o, none⟩ = false
  ot : w.ownsRow n0 46 2 vt st.tens.length (flatT st.tens ks)
  oe : w.ownsRow n0 44 8 ve st.evs.length (flatE st.evs ds)
  rt : Rows w (st.tens.map Ten.key) ks (bad ex r vt ve)
  re : Rows w (st.evs.map Ev.data) ds (bad ex r vt ve)
  at' : vt.ownBlock ≠ some r
  ae : ve.ownBlock ≠ some r
  te : ∀ g, vt.ownBlock = some g → ve.ownBlock ≠ some g
  nr : n0 ≤ r
  xr : ∀ b ∈ ex, b ≠ r ∧ vt.ownBlock ≠ some b ∧ ve.ownBlock ≠ some b ∧ b < w.heap.size
def RdAt (w : World) (n0 : Nat) (ex : List Nat) (r : Nat) (st : Rd) : Prop := ∃ vt ve ks ds, RdIs w n0 ex r st vt ve ks ds
theorem RdIs.lt {w : World} {n0 : Nat} {ex : List Nat} {r : Nat} {st : Rd} {vt ve : Value} {ks ds : List Value} (h : RdIs w n0 ex r st vt ve ks ds) : r < w.heap.size := World.block_lt_of_cell? _ _ h.c0
theorem RdIs.ck {w w' : World} {n0 : Nat} {ex : List Nat} {r : Nat} {st : Rd} {vt ve : Value} {ks ds : List Value} (h : RdIs w n0 ex r st vt ve ks ds) (hc : CK ex w w') : RdIs w' n0 ex r st vt ve ks ds := by
  have hr : r ∉ ex := fun e => (h.xr r e).1 rfl
  exact ⟨hc.cell h.c0 hr, hc.cell h.c1 hr, hc.cell h.c2 hr, hc.cell h.c3 hr, fun o => hc.frozen h.c0 hr (h.fz o), row_ck h.ot hc (fun b hb => (h.xr b hb).2.1), row_ck h.oe hc (fun b hb => (h.xr b hb).2.2.1), h.rt.ck hc (fun b hb => .inr (.inr (.inr hb))), h.re.ck hc (fun b hb => .inr (.inr (.inr hb))), h.at', h.ae, h.te, h.nr, fun b hb => ⟨(h.xr b hb).1, (h.xr b hb).2.1, (h.xr b hb).2.2.1, Nat.lt_of_lt_of_le (h.xr b hb).2.2.2 hc.size⟩⟩
theorem RdAt.ck {w w' : World} {n0 : Nat} {ex : List Nat} {r : Nat} {st : Rd} (h : RdAt w n0 ex r st) (hc : CK ex w w') : RdAt w' n0 ex r st := by
  obtain ⟨vt, ve, ks, ds, h⟩ := h
  exact ⟨vt, ve, ks, ds, h.ck hc⟩
theorem RdIs.below {w w' : World} {n0 : Nat} {ex : List Nat} {r : Nat} {st : Rd} {vt ve : Value} {ks ds : List Value} (h : RdIs w n0 ex r st vt ve ks ds) (hb : Below w.heap.size w w') : RdIs w' n0 ex r st vt ve ks ds := h.ck (CK.of_below hb)

theorem own_form {w : World} {base e size n : Nat} {v : Value} {xs : List Value} (h : w.ownsRow base e size v n xs) : ∃ a cap, v = .slice a n cap := by
  rcases h.2 with ⟨rfl, rfl⟩ | ⟨g, cap, _, rfl, _⟩
  · exact ⟨_, _, rfl⟩
  · exact ⟨_, _, rfl⟩
/-- One append of one element to a row of the call's own, as a step of a region that draws. -/
theorem step_append_one {ops : Array Oper} {o : Oper} {a : Act} {K : Act → World → Prop} {Q : Exit → Act → World → Prop} {E : Prop} {w : World} (hgd : o.guard = none) (s x : Operand) (t e : TypeId)
    (ho : o.op = .call { callee := .builtin .append, args := #[s, x], argTypes := #[t, t] }) (base : Nat) (i : TypeInfo) (z : Value) (size bytes : Nat) (ht : Tryz.prog.underlying t = some (.slice e)) (hi : Tryz.prog.info? e = some i) (hz : i.zero = some z)
    (hsize : i.size = size) (hby : i.bytes = bytes) (hzs : z.cells.size = size) (hsz : 0 < size) (v : Value) (n : Nat) (xs : List Value) (hs : a.eval s = v) (hown : w.ownsRow base e size v n xs) (ad : Addr) (news : List Value) (hx : a.eval x = .slice (some ad) 1 1)
    (hl : news.length = 1 * size) (hnews : ∀ j u, news[j]? = some u → w.cell? (ad.add j) = some u) (h1 : ∀ u ∈ news, u.oneCell' = true) (h63 : n + 1 ≤ 1000000) (hbyt : bytes ≤ 1000) (hbase : base ≤ w.heap.size)
    (h : ∀ (g' cap' : Nat) (w' : World), w'.ownsRow base e size (.slice (some ⟨g', 0, none⟩) (n + 1) cap') (n + 1) (xs ++ news) → w.grownBy w' v.ownBlock → (v.ownBlock = some g' ∨ g' = w.heap.size) → K (a.put o.dst (.slice (some ⟨g', 0, none⟩) (n + 1) cap')) w') :
    if Region.wanted o (yielded ops a.tmps) = true then Oper.wp Tryz.prog o a w K Q else E := by
  have hw : Region.wanted o (yielded ops a.tmps) = true := by simp [Region.wanted, hgd]
  rw [if_pos hw]
  have hbb : (n + 1) * bytes ≤ 140737488355328 := Nat.le_trans (Nat.mul_le_mul h63 hbyt) (by decide)
  obtain ⟨v', w', hrun, h2, h3, _, h5⟩ := run_append_own_at (P := Tryz.prog) w base t o.type e i z size bytes ht hi hz hsize hby hzs hsz v n xs hown ad 1 1 news hl hnews h1 (by unfold maxLen; omega) hbb hbase
  obtain ⟨g', cap', rfl⟩ : ∃ g' cap', v' = .slice (some ⟨g', 0, none⟩) (n + 1) cap' := by
    rcases h2.2 with ⟨_, h0⟩ | ⟨g, cap, _, e, _⟩
    · omega
    · exact ⟨g, cap, e⟩
  unfold Oper.wp
  simp [execOp, ho, resolve, invoke, builtin, hs, hx, hrun, Result.andThen]
  refine h g' cap' w' h2 h3 ?_
  rcases h5 with e | e
  · exact .inl e.symm
  · exact .inr (Option.some.inj e)
theorem info104 : (Tryz.prog.info? 44).map (fun i => (i.zero, i.size, i.bytes)) = some (some (.agg #[.int .i64 0, .int .i64 0, .int .i64 0, .string ⟨#[]⟩, .int .u64 0, .int .i64 0, .int .u64 0, .slice none 0 0]), 8, 88) := by kernel_rfl
theorem info67 : (Tryz.prog.info? 46).map (fun i => (i.zero, i.size, i.bytes)) = some (some (.agg #[.string ⟨#[]⟩, .slice none 0 0]), 2, 40) := by kernel_rfl
end Go.Proofs.YtinabbdecmjcpaaGreatDoor.Script

namespace Go.Proofs.YtinabbdecmjcpaaGreatDoor.Script
open Go.RowKit Go.Proofs.YtinabbdecmjcpaaGreatDoor Go.Proofs.YtinabbdecmjcpaaGreatDoor.Plain Go.Proofs.YtinabbdecmjcpaaGreatDoor.Words Go.Proofs.YtinabbdecmjcpaaGreatDoor.Named Go.Proofs.YtinabbdecmjcpaaGreatDoor.Hex Go.Proofs.YtinabbdecmjcpaaGreatDoor.Number Go.Proofs.YtinabbdecmjcpaaGreatDoor.Queue Go.Proofs.YtinabbdecmjcpaaGreatDoor.Line Go.Proofs.YtinabbdecmjcpaaGreatDoor.Ev
set_option linter.unusedVariables false

/-- What a call of the reader's leaves alone. -/
structure TFr (n0 : Nat) (ex : List Nat) (w w' : World) : Prop where
  ko : KeepsOthers w w'
  be : Below n0 w w'
  xs : ∀ b ∈ ex, w'.heap[b]? = w.heap[b]?
theorem TFr.of_below {n0 : Nat} {ex : List Nat} {w w' : World} (h : Below w.heap.size w w') (hn : n0 ≤ w.heap.size) (hx : ∀ b ∈ ex, b < w.heap.size) : TFr n0 ex w w' :=
  ⟨keeps_chg (bs := []) (Chg.of_below h) (by simp), h.mono hn, fun b hb => h.block b (hx b hb)⟩
theorem TFr.of_chg {n0 : Nat} {ex bs : List Nat} {w w' : World} (h : Chg bs w w') (hn : n0 ≤ w.heap.size) (hx : ∀ b ∈ ex, b < w.heap.size ∧ b ∉ bs) (hb : ∀ b ∈ bs, n0 ≤ b ∧ ∃ o : Obj, w.heap[b]? = some o ∧ o.isCells = true) : TFr n0 ex w w' :=
  ⟨keeps_chg h (fun b hx => (hb b hx).2), h.below hn (fun b hx => (hb b hx).1), fun b hx' => h.block b (hx b hx').1 (hx b hx').2⟩
theorem chg_grow {w w' : World} {row : Option Nat} (h : w.grownBy w' row) : Chg row.toList w w' := ⟨h.os, h.tape, h.output, h.size, fun k hk hn => h.block k hk (fun e => hn (by rw [← e]; simp))⟩
theorem own_cells {w : World} {base e size n : Nat} {v : Value} {xs : List Value} (h : w.ownsRow base e size v n xs) {b : Nat} (hb : v.ownBlock = some b) : base ≤ b ∧ ∃ o : Obj, w.heap[b]? = some o ∧ o.isCells = true := by
  rcases h.2 with ⟨rfl, _⟩ | ⟨g, cap, cur, rfl, hB, hg, _⟩
  · cases hb
  · cases hb
    exact ⟨hB, _, hg, rfl⟩
theorem RdIs.ex_lt {w : World} {n0 : Nat} {ex : List Nat} {r : Nat} {st : Rd} {vt ve : Value} {ks ds : List Value} (h : RdIs w n0 ex r st vt ve ks ds) : ∀ b ∈ ex, b < w.heap.size := fun b hb => (h.xr b hb).2.2.2
theorem RdIs.n0_le {w : World} {n0 : Nat} {ex : List Nat} {r : Nat} {st : Rd} {vt ve : Value} {ks ds : List Value} (h : RdIs w n0 ex r st vt ve ks ds) : n0 ≤ w.heap.size := by have := h.lt; have := h.nr; omega
theorem RdIs.bad_lt {w : World} {n0 : Nat} {ex : List Nat} {r : Nat} {st : Rd} {vt ve : Value} {ks ds : List Value} (h : RdIs w n0 ex r st vt ve ks ds) (b : Nat) (hb : bad ex r vt ve b) : b < w.heap.size := by
  rcases hb with rfl | hb | hb | hb
  · exact h.lt
  · exact (World.ownsRow.lt h.ot b hb).2
  · exact (World.ownsRow.lt h.oe b hb).2
  · exact h.ex_lt b hb
theorem RdIs.r_cells {w : World} {n0 : Nat} {ex : List Nat} {r : Nat} {st : Rd} {vt ve : Value} {ks ds : List Value} (h : RdIs w n0 ex r st vt ve ks ds) : ∃ o : Obj, w.heap[r]? = some o ∧ o.isCells = true := cells_of_cell h.c0
theorem set_r (W : World) (r i j : Nat) (v : Value) (h : i ≠ j) : (W.setCell ⟨r, i, none⟩ v).cell? ⟨r, j, none⟩ = W.cell? ⟨r, j, none⟩ := World.cell?_setCell_other _ _ _ _ (fun e => h (congrArg Addr.off e))

section
variable {w W4 w5 : World} {n0 : Nat} {ex : List Nat} {r : Nat} {st : Rd} {vt ve : Value} {ks ds : List Value}
theorem RdIs.push_ev {g' cap' : Nat} {e : Ev} {dv : Value} (h : RdIs w n0 ex r st vt ve ks ds) (hb : Below w.heap.size w W4)
    (hown : w5.ownsRow n0 44 8 (.slice (some ⟨g', 0, none⟩) (st.evs.length + 1) cap') (st.evs.length + 1) (flatE st.evs ds ++ [.int .i64 e.kind, .int .i64 e.session, .int .i64 e.stream, .string e.tenant, .int .u64 (e.n : Int), .int .i64 e.m, .int .u64 (e.bits : Int), dv]))
    (hg : W4.grownBy w5 ve.ownBlock) (hat : ve.ownBlock = some g' ∨ g' = W4.heap.size) (hd : CRow W4 dv e.data) (ho : ∀ b, b < w.heap.size → Off dv b) :
    RdAt (w5.setCell ⟨r, 3, none⟩ (.slice (some ⟨g', 0, none⟩) (st.evs.length + 1) cap')) n0 ex r { st with evs := st.evs ++ [e] } ∧ TFr n0 ex w (w5.setCell ⟨r, 3, none⟩ (.slice (some ⟨g', 0, none⟩) (st.evs.length + 1) cap')) := by
  have h4 := h.below hb
  have hz4 := hb.size
  have hrl := h.lt
  have hgr : g' ≠ r := by
    rintro rfl
    rcases hat with e | e
    · exact h.ae e
    · omega
  have hc5 : Chg (r :: ve.ownBlock.toList) W4 w5 := (chg_grow hg).mono (fun x hx => by simp; right; simpa using hx)
  have hc6 : Chg (r :: ve.ownBlock.toList) W4 (w5.setCell ⟨r, 3, none⟩ (.slice (some ⟨g', 0, none⟩) (st.evs.length + 1) cap')) := hc5.setCell (p := ⟨r, 3, none⟩) (by simp) _
  have hcw : Chg (r :: ve.ownBlock.toList) w (w5.setCell ⟨r, 3, none⟩ (.slice (some ⟨g', 0, none⟩) (st.evs.length + 1) cap')) := (Chg.of_below hb).trans hc6
  have hr5 : w5.heap[r]? = W4.heap[r]? := (chg_grow hg).block r h4.lt (by simpa using h.ae)
  have hs5 := hg.size
  have k0 := fun i => World.cell?_of_block (w := W4) (a := ⟨r, i, none⟩) hr5
  have kz := fun i => World.frozen?_of_block (w := W4) (a := ⟨r, i, none⟩) hr5
  have hbs : ∀ b ∈ r :: ve.ownBlock.toList, bad ex r vt ve b := fun b hx => by
    simp at hx
    rcases hx with rfl | hx
    · exact .inl rfl
    · exact .inr (.inr (.inl hx))
  have wk : ∀ b, (bad ex r vt ve b ∨ bad ex r vt (.slice (some ⟨g', 0, none⟩) (st.evs.length + 1) cap') b) → bad ex r vt ve b ∨ W4.heap.size ≤ b := fun b hx => by
    rcases hx with hx | hx | hx | hx | hx
    · exact .inl hx
    · exact .inl (.inl hx)
    · exact .inl (.inr (.inl hx))
    · have e1 : g' = b := Option.some.inj hx
      rcases hat with e | e
      · exact .inl (.inr (.inr (.inl (e1 ▸ e))))
      · exact .inr (by omega)
    · exact .inl (.inr (.inr (.inr hx)))
  refine ⟨⟨vt, .slice (some ⟨g', 0, none⟩) (st.evs.length + 1) cap', ks, ds ++ [dv], ⟨?_, ?_, ?_, ?_, ?_, ?_, ?_, ?_, ?_, h.at', ?_, ?_, h.nr, ?_⟩⟩, ?_⟩
  · rw [set_r _ _ _ _ _ (by decide)]; exact (k0 0).trans h4.c0
  · rw [set_r _ _ _ _ _ (by decide)]; exact (k0 1).trans h4.c1
  · rw [set_r _ _ _ _ _ (by decide)]; exact (k0 2).trans h4.c2
  · exact World.cell?_setCell_same _ _ _ ((k0 3).trans h4.c3)
  · intro o
    rw [World.frozen?_setCell]
    exact (kz o).trans (h4.fz o)
  · refine row_ck h4.ot (CK.of_chg hc6) (fun b hx => ?_)
    simp at hx
    rcases hx with rfl | hx
    · exact h.at'
    · exact fun e => h.te b e hx
  · have := row_ck hown (CK.of_chg ((Chg.refl [r] w5).setCell (p := ⟨r, 3, none⟩) (by simp) (.slice (some ⟨g', 0, none⟩) (st.evs.length + 1) cap'))) (fun b hx => by simp at hx; subst hx; intro e; exact hgr (Option.some.inj e))
    rw [flatE_snoc _ _ _ _ (by rw [h.re.1]; simp)]
    simpa using this
  · exact ((h4.rt.weaken wk).ck (CK.of_chg hc6) (fun b hx => .inl (hbs b hx))).weaken (fun b hx => .inl (.inr hx))
  · have hr1 := ((h4.re.weaken wk).snoc hd (fun b hx => by
      rcases wk b hx with e | e
      · exact ho b (h.bad_lt b e)
      · exact off_old hd b e))
    have hr2 := (hr1.ck (CK.of_chg hc6) (fun b hx => .inl (hbs b hx))).weaken (bad' := bad ex r vt (.slice (some ⟨g', 0, none⟩) (st.evs.length + 1) cap')) (fun b hx => .inl (.inr hx))
    simpa using hr2
  · intro e; exact hgr (Option.some.inj e)
  · intro g hg1 hg2
    have e1 : g' = g := Option.some.inj hg2
    subst e1
    rcases hat with e | e
    · exact h.te _ hg1 e
    · have := (World.ownsRow.lt h.ot _ hg1).2; omega
  · intro b hx
    obtain ⟨x1, x2, x3, x4⟩ := h.xr b hx
    refine ⟨x1, x2, ?_, by simp; omega⟩
    intro e
    have e1 : g' = b := Option.some.inj e
    subst e1
    rcases hat with e | e
    · exact x3 e
    · omega
  · refine TFr.of_chg hcw h.n0_le (fun b hx => ⟨h.ex_lt b hx, ?_⟩) (fun b hx => ?_)
    · obtain ⟨x1, x2, x3, x4⟩ := h.xr b hx
      simp only [List.mem_cons, Option.mem_toList, not_or]
      exact ⟨x1, x3⟩
    · simp at hx
      rcases hx with rfl | hx
      · exact ⟨h.nr, h.r_cells⟩
      · exact own_cells h.oe hx
theorem RdIs.push_ten {g' cap' : Nat} {t : Ten} {kv : Value} (h : RdIs w n0 ex r st vt ve ks ds) (hb : Below w.heap.size w W4)
    (hown : w5.ownsRow n0 46 2 (.slice (some ⟨g', 0, none⟩) (st.tens.length + 1) cap') (st.tens.length + 1) (flatT st.tens ks ++ [.string t.name, kv]))
    (hg : W4.grownBy w5 vt.ownBlock) (hat : vt.ownBlock = some g' ∨ g' = W4.heap.size) (hd : CRow W4 kv t.key) (ho : ∀ b, b < w.heap.size → Off kv b) :
    RdAt (w5.setCell ⟨r, 0, none⟩ (.slice (some ⟨g', 0, none⟩) (st.tens.length + 1) cap')) n0 ex r { st with tens := st.tens ++ [t] } ∧ TFr n0 ex w (w5.setCell ⟨r, 0, none⟩ (.slice (some ⟨g', 0, none⟩) (st.tens.length + 1) cap')) := by
  have h4 := h.below hb
  have hz4 := hb.size
  have hrl := h.lt
  have hgr : g' ≠ r := by
    rintro rfl
    rcases hat with e | e
    · exact h.at' e
    · omega
  have hc5 : Chg (r :: vt.ownBlock.toList) W4 w5 := (chg_grow hg).mono (fun x hx => by simp; right; simpa using hx)
  have hc6 : Chg (r :: vt.ownBlock.toList) W4 (w5.setCell ⟨r, 0, none⟩ (.slice (some ⟨g', 0, none⟩) (st.tens.length + 1) cap')) := hc5.setCell (p := ⟨r, 0, none⟩) (by simp) _
  have hcw : Chg (r :: vt.ownBlock.toList) w (w5.setCell ⟨r, 0, none⟩ (.slice (some ⟨g', 0, none⟩) (st.tens.length + 1) cap')) := (Chg.of_below hb).trans hc6
  have hr5 : w5.heap[r]? = W4.heap[r]? := (chg_grow hg).block r h4.lt (by simpa using h.at')
  have hs5 := hg.size
  have k0 := fun i => World.cell?_of_block (w := W4) (a := ⟨r, i, none⟩) hr5
  have kz := fun i => World.frozen?_of_block (w := W4) (a := ⟨r, i, none⟩) hr5
  have hbs : ∀ b ∈ r :: vt.ownBlock.toList, bad ex r vt ve b := fun b hx => by
    simp at hx
    rcases hx with rfl | hx
    · exact .inl rfl
    · exact .inr (.inl hx)
  have wk : ∀ b, (bad ex r vt ve b ∨ bad ex r (.slice (some ⟨g', 0, none⟩) (st.tens.length + 1) cap') ve b) → bad ex r vt ve b ∨ W4.heap.size ≤ b := fun b hx => by
    rcases hx with hx | hx | hx | hx | hx
    · exact .inl hx
    · exact .inl (.inl hx)
    · have e1 : g' = b := Option.some.inj hx
      rcases hat with e | e
      · exact .inl (.inr (.inl (e1 ▸ e)))
      · exact .inr (by omega)
    · exact .inl (.inr (.inr (.inl hx)))
    · exact .inl (.inr (.inr (.inr hx)))
  refine ⟨⟨.slice (some ⟨g', 0, none⟩) (st.tens.length + 1) cap', ve, ks ++ [kv], ds, ⟨?_, ?_, ?_, ?_, ?_, ?_, ?_, ?_, ?_, ?_, h.ae, ?_, h.nr, ?_⟩⟩, ?_⟩
  · exact World.cell?_setCell_same _ _ _ ((k0 0).trans h4.c0)
  · rw [set_r _ _ _ _ _ (by decide)]; exact (k0 1).trans h4.c1
  · rw [set_r _ _ _ _ _ (by decide)]; exact (k0 2).trans h4.c2
  · rw [set_r _ _ _ _ _ (by decide)]; exact (k0 3).trans h4.c3
  · intro o
    rw [World.frozen?_setCell]
    exact (kz o).trans (h4.fz o)
  · have := row_ck hown (CK.of_chg ((Chg.refl [r] w5).setCell (p := ⟨r, 0, none⟩) (by simp) (.slice (some ⟨g', 0, none⟩) (st.tens.length + 1) cap'))) (fun b hx => by simp at hx; subst hx; intro e; exact hgr (Option.some.inj e))
    rw [flatT_snoc _ _ _ _ (by rw [h.rt.1]; simp)]
    simpa using this
  · refine row_ck h4.oe (CK.of_chg hc6) (fun b hx => ?_)
    simp at hx
    rcases hx with rfl | hx
    · exact h.ae
    · exact h.te b hx
  · have hr1 := ((h4.rt.weaken wk).snoc hd (fun b hx => by
      rcases wk b hx with e | e
      · exact ho b (h.bad_lt b e)
      · exact off_old hd b e))
    have hr2 := (hr1.ck (CK.of_chg hc6) (fun b hx => .inl (hbs b hx))).weaken (bad' := bad ex r (.slice (some ⟨g', 0, none⟩) (st.tens.length + 1) cap') ve) (fun b hx => .inl (.inr hx))
    simpa using hr2
  · exact ((h4.re.weaken wk).ck (CK.of_chg hc6) (fun b hx => .inl (hbs b hx))).weaken (fun b hx => .inl (.inr hx))
  · intro e; exact hgr (Option.some.inj e)
  · intro g hg1 hg2
    have e1 : g' = g := Option.some.inj hg1
    subst e1
    rcases hat with e | e
    · exact h.te _ e hg2
    · have := (World.ownsRow.lt h.oe _ hg2).2; omega
  · intro b hx
    obtain ⟨x1, x2, x3, x4⟩ := h.xr b hx
    refine ⟨x1, ?_, x3, by simp; omega⟩
    intro e
    have e1 : g' = b := Option.some.inj e
    subst e1
    rcases hat with e | e
    · exact x2 e
    · omega
  · refine TFr.of_chg hcw h.n0_le (fun b hx => ⟨h.ex_lt b hx, ?_⟩) (fun b hx => ?_)
    · obtain ⟨x1, x2, x3, x4⟩ := h.xr b hx
      simp only [List.mem_cons, Option.mem_toList, not_or]
      exact ⟨x1, x2⟩
    · simp at hx
      rcases hx with rfl | hx
      · exact ⟨h.nr, h.r_cells⟩
      · exact own_cells h.ot hx
theorem RdIs.set_cap {k : Int} (h : RdIs w n0 ex r st vt ve ks ds) (hb : Below w.heap.size w W4) :
    RdAt (W4.setCell ⟨r, 1, none⟩ (.int .i64 k)) n0 ex r { st with cap := k } ∧ TFr n0 ex w (W4.setCell ⟨r, 1, none⟩ (.int .i64 k)) := by
  have h4 := h.below hb
  have hc : Chg [r] W4 (W4.setCell ⟨r, 1, none⟩ (.int .i64 k)) := (Chg.refl _ _).setCell (p := ⟨r, 1, none⟩) (by simp) _
  refine ⟨⟨vt, ve, ks, ds, ⟨?_, ?_, ?_, ?_, ?_, ?_, ?_, ?_, ?_, h.at', h.ae, h.te, h.nr, ?_⟩⟩, ?_⟩
  · rw [set_r _ _ _ _ _ (by decide)]; exact h4.c0
  · exact World.cell?_setCell_same _ _ _ h4.c1
  · rw [set_r _ _ _ _ _ (by decide)]; exact h4.c2
  · rw [set_r _ _ _ _ _ (by decide)]; exact h4.c3
  · intro o
    rw [World.frozen?_setCell]
    exact h4.fz o
  · exact row_ck h4.ot (CK.of_chg hc) (fun b hx => by simp at hx; subst hx; exact h.at')
  · exact row_ck h4.oe (CK.of_chg hc) (fun b hx => by simp at hx; subst hx; exact h.ae)
  · exact h4.rt.ck (CK.of_chg hc) (fun b hx => by simp at hx; exact .inl hx)
  · exact h4.re.ck (CK.of_chg hc) (fun b hx => by simp at hx; exact .inl hx)
  · intro b hx
    obtain ⟨x1, x2, x3, x4⟩ := h4.xr b hx
    exact ⟨x1, x2, x3, by simpa using x4⟩
  · refine TFr.of_chg ((Chg.of_below hb).trans hc) h.n0_le (fun b hx => ⟨h.ex_lt b hx, by simpa using (h.xr b hx).1⟩) (fun b hx => ?_)
    simp at hx
    subst hx
    exact ⟨h.nr, h.r_cells⟩
theorem RdIs.set_ses {k : Int} (h : RdIs w n0 ex r st vt ve ks ds) (hb : Below w.heap.size w W4) :
    RdAt (W4.setCell ⟨r, 2, none⟩ (.int .i64 k)) n0 ex r { st with sess := k } ∧ TFr n0 ex w (W4.setCell ⟨r, 2, none⟩ (.int .i64 k)) := by
  have h4 := h.below hb
  have hc : Chg [r] W4 (W4.setCell ⟨r, 2, none⟩ (.int .i64 k)) := (Chg.refl _ _).setCell (p := ⟨r, 2, none⟩) (by simp) _
  refine ⟨⟨vt, ve, ks, ds, ⟨?_, ?_, ?_, ?_, ?_, ?_, ?_, ?_, ?_, h.at', h.ae, h.te, h.nr, ?_⟩⟩, ?_⟩
  · rw [set_r _ _ _ _ _ (by decide)]; exact h4.c0
  · rw [set_r _ _ _ _ _ (by decide)]; exact h4.c1
  · exact World.cell?_setCell_same _ _ _ h4.c2
  · rw [set_r _ _ _ _ _ (by decide)]; exact h4.c3
  · intro o
    rw [World.frozen?_setCell]
    exact h4.fz o
  · exact row_ck h4.ot (CK.of_chg hc) (fun b hx => by simp at hx; subst hx; exact h.at')
  · exact row_ck h4.oe (CK.of_chg hc) (fun b hx => by simp at hx; subst hx; exact h.ae)
  · exact h4.rt.ck (CK.of_chg hc) (fun b hx => by simp at hx; exact .inl hx)
  · exact h4.re.ck (CK.of_chg hc) (fun b hx => by simp at hx; exact .inl hx)
  · intro b hx
    obtain ⟨x1, x2, x3, x4⟩ := h4.xr b hx
    exact ⟨x1, x2, x3, by simpa using x4⟩
  · refine TFr.of_chg ((Chg.of_below hb).trans hc) h.n0_le (fun b hx => ⟨h.ex_lt b hx, by simpa using (h.xr b hx).1⟩) (fun b hx => ?_)
    simp at hx
    subst hx
    exact ⟨h.nr, h.r_cells⟩
end
end Go.Proofs.YtinabbdecmjcpaaGreatDoor.Script

namespace Go.Proofs.YtinabbdecmjcpaaGreatDoor.Script
open Go.RowKit Go.Deep Go.Proofs.YtinabbdecmjcpaaGreatDoor Go.Proofs.YtinabbdecmjcpaaGreatDoor.Plain Go.Proofs.YtinabbdecmjcpaaGreatDoor.Words Go.Proofs.YtinabbdecmjcpaaGreatDoor.Named Go.Proofs.YtinabbdecmjcpaaGreatDoor.Hex Go.Proofs.YtinabbdecmjcpaaGreatDoor.Number Go.Proofs.YtinabbdecmjcpaaGreatDoor.Queue Go.Proofs.YtinabbdecmjcpaaGreatDoor.Line Go.Proofs.YtinabbdecmjcpaaGreatDoor.Ev
set_option linter.unusedVariables false

def TakePost (st : Rd) (o : Option Rd) (n0 : Nat) (ex : List Nat) (r : Nat) (w : World) (e : Ending) (w' : World) : Prop :=
  e = .returned (.bool o.isSome) ∧ (∀ st', o = some st' → RdAt w' n0 ex r st') ∧ TFr n0 ex w w'
theorem newN (X : World) (K : Nat) (l : List Value) (t : TypeId) (hK : K = X.heap.size) : ∀ j u, l[j]? = some u → (X.alloc (.cells l.toArray t)).cell? (Addr.add ⟨K, 0, none⟩ j) = some u := by
  subst hK
  intro j u hj
  rw [addr_add, Nat.zero_add, World.cell?_alloc_at _ _ _ _ rfl]
  simpa using hj
theorem toList_L (s : ByteArray) : s.toList = L s := ByteArray.toList_eq s
theorem str_ne (s : ByteArray) (l : List UInt8) (h : L s ≠ l) : (s.toList == l) = false := by rw [beq_eq_false_iff_ne, toList_L]; exact h
theorem str_eq (s : ByteArray) (l : List UInt8) (h : L s = l) : (s.toList == l) = true := by rw [beq_iff_eq, toList_L]; exact h

section
variable {w : World} {n0 : Nat} {ex : List Nat} {r : Nat} {st : Rd} {vt ve : Value} {ks ds : List Value}
set_option maxRecDepth 100000 in
set_option maxHeartbeats 4000000 in
theorem take_empty (h : RdIs w n0 ex r st vt ve ks ds) : Calls Tryz.prog 28 #[.pointer (some ⟨r, 0, none⟩), .string ⟨#[]⟩] w (TakePost st (takeOf st []) n0 ex r w) := by
  have H := Lib.hid h
  clear h
  go_enter Tryz.func28, Tryz.ntmps28
  go_wp2
  go_ret
  exact ⟨rfl, fun st' e => by cases Option.some.inj e; exact ⟨_, _, _, _, H.out⟩, TFr.of_below (Below.refl _ _) H.out.n0_le H.out.ex_lt⟩
set_option maxRecDepth 100000 in
set_option maxHeartbeats 4000000 in
theorem take_note (x : ByteArray) (hx : 0 < x.size) (hc : (x[0]'hx) = 35) (h : RdIs w n0 ex r st vt ve ks ds) : Calls Tryz.prog 28 #[.pointer (some ⟨r, 0, none⟩), .string x] w (TakePost st (takeOf st (L x)) n0 ex r w) := by
  have H := Lib.hid h
  obtain ⟨e1, e2⟩ := empty_no x hx
  have hcn : ((x[0]'hx).toNat : Int) = 35 := by rw [hc]; rfl
  have ix : ∀ W, (Instr.index 9 (.string x) (.int .i64 0)).run Tryz.prog W = .ok (.int .u8 35) W := fun W => by
    rw [← hcn]
    go_simp
  have ht : takeOf st (L x) = some st := by
    unfold takeOf
    rw [if_pos]
    right
    obtain ⟨l, hl⟩ := head_L x hx
    rw [hl, hc]
    rfl
  rw [ht]
  clear h ht hc hcn
  go_enter Tryz.func28, Tryz.ntmps28
  go_wp2
  go_ret
  exact ⟨rfl, fun st' e => by cases Option.some.inj e; exact ⟨_, _, _, _, H.out⟩, TFr.of_below (Below.refl _ _) H.out.n0_le H.out.ex_lt⟩

theorem grow_r {w' : World} {o : Obj} (h : RdIs w n0 ex r st vt ve ks ds) (hg : (w.alloc o).drew.grownBy w' ve.ownBlock) : w'.cell? ⟨r, 3, none⟩ = some ve ∧ w'.frozen? ⟨r, 3, none⟩ = false := by
  have h' : RdIs (w.alloc o).drew n0 ex r st vt ve ks ds := h.below ((Below.refl _ _).alloc (Nat.le_refl _) _).drew
  have hr := (chg_grow hg).block r h'.lt (by simpa using h.ae)
  exact ⟨(World.cell?_of_block (w := (w.alloc o).drew) (a := ⟨r, 3, none⟩) hr).trans h'.c3, (World.frozen?_of_block (w := (w.alloc o).drew) (a := ⟨r, 3, none⟩) hr).trans (h'.fz 3)⟩
/-- A line that is neither empty nor a note. -/
def Plainly (x : ByteArray) : Prop := ∃ hx : 0 < x.size, (x[0]'hx) ≠ 35
theorem plainly_take {x : ByteArray} (h : Plainly x) : ¬ (L x = [] ∨ (L x).head? = some 35) := by
  obtain ⟨hx, hc⟩ := h
  obtain ⟨l, hl⟩ := head_L x hx
  rw [hl]
  simp
  exact hc
set_option maxRecDepth 100000 in
set_option maxHeartbeats 8000000 in
theorem take_ev (x : ByteArray) (hp : Plainly x) (hs : x.size ≤ 100000) (h1 : first (words (L x)) ≠ wTen) (h2 : first (words (L x)) ≠ wCap) (h3 : first (words (L x)) ≠ wSes) (hn : st.evs.length + 1 ≤ 1000000) (h : RdIs w n0 ex r st vt ve ks ds) :
    Calls Tryz.prog 28 #[.pointer (some ⟨r, 0, none⟩), .string x] w (TakePost st (takeOf st (L x)) n0 ex r w) := by
  have H := Lib.hid h
  have ht : takeOf st (L x) = if (parseOf (L x)).2 ≠ 0 then none else some { st with evs := st.evs ++ [(parseOf (L x)).1] } := by
    unfold takeOf
    rw [if_neg (plainly_take hp), if_neg h1, if_neg h2, if_neg h3]
  generalize takeOf st (L x) = O at *
  obtain ⟨hx, hc⟩ := hp
  obtain ⟨e1, e2⟩ := empty_no x hx
  have hcn : (((x[0]'hx).toNat : Int) == 35) = false := by
    rw [beq_eq_false_iff_ne]
    intro e
    apply hc
    apply UInt8.toNat_inj.1
    show (x[0]'hx).toNat = 35
    omega
  have ix : ∀ W, (Instr.index 9 (.string x) (.int .i64 0)).run Tryz.prog W = .ok (.int .u8 ((x[0]'hx).toNat : Int)) W := fun W => by go_simp
  generalize (x[0]'hx).toNat = c0 at *
  have hwd := Lib.hid (fun W => word_any x W (by omega))
  have hpa : Hid (∀ W, Calls Tryz.prog 47 #[.string x] W fun e w' => ∃ dv, e = .returned (.tuple #[evV (parseOf (L x)).1 dv, .int .i64 ((parseOf (L x)).2 : Int)]) ∧ CRow w' dv (parseOf (L x)).1.data ∧ (∀ b, b < W.heap.size → Off dv b) ∧ Below W.heap.size W w') := Lib.hid fun W => parse_any x W hs
  rw [first_eq] at hwd
  have t1 : ((S (first (words (L x)))).toList == [116, 101, 110, 97, 110, 116]) = false := str_ne _ _ h1
  have t2 : ((S (first (words (L x)))).toList == [99, 97, 112, 97, 99, 105, 116, 121]) = false := str_ne _ _ h2
  have t3 : ((S (first (words (L x)))).toList == [115, 101, 115, 115, 105, 111, 110, 115]) = false := str_ne _ _ h3
  have t1' : ¬ (S (first (words (L x)))).toList = [116, 101, 110, 97, 110, 116] := by rw [beq_eq_false_iff_ne] at t1; exact t1
  have t2' : ¬ (S (first (words (L x)))).toList = [99, 97, 112, 97, 99, 105, 116, 121] := by rw [beq_eq_false_iff_ne] at t2; exact t2
  have t3' : ¬ (S (first (words (L x)))).toList = [115, 101, 115, 115, 105, 111, 110, 115] := by rw [beq_eq_false_iff_ne] at t3; exact t3
  generalize S (first (words (L x))) = y at *
  generalize (parseOf (L x)).1 = E at *
  generalize (parseOf (L x)).2 = er at *
  obtain ⟨i0, hi, hz0, hz1, hz2⟩ := info_parts info104
  have HT := Lib.hid ht
  clear h h1 h2 h3 ht hc
  go_enter Tryz.func28, Tryz.ntmps28
  go_wp2_with fail
  refine (hwd.out _).mono ?_
  rintro e w1 ⟨rfl, hb1⟩
  have B1 := Lib.hid hb1
  clear hb1
  go_wp2_with fail
  refine (hpa.out _).mono ?_
  rintro e w2 ⟨dv, rfl, hcr, hof, hb2⟩
  obtain ⟨ad, cd, rfl⟩ := crow_form hcr
  have B2 := Lib.hid (bt B1.out hb2)
  have HC := Lib.hid (And.intro hcr hof)
  have hs1 := B1.out.size
  clear hb2 hcr hof
  by_cases her : er = 0
  rotate_left
  · have t : ((er : Int) != 0) = true := by rw [bne_iff_ne]; omega
    go_wp2
    go_ret
    have hO : O = none := by rw [HT.out, if_pos her]
    refine ⟨by rw [hO]; rfl, fun st' e => (by rw [hO] at e; cases e), ?_⟩
    exact TFr.of_below (B2.out.alloc B2.out.size _) H.out.n0_le H.out.ex_lt
  · have t : ((er : Int) != 0) = false := by rw [bne_eq_false_iff_eq]; omega
    have hO : O = some { st with evs := st.evs ++ [E] } := by rw [HT.out, if_neg (by rw [her]; simp)]
    have HO := Lib.hid hO
    clear hO
    go_wp2_with fail
    have b3 : Below w2.heap.size w2 (w2.alloc (.cells #[.int .i64 E.kind, .int .i64 E.session, .int .i64 E.stream, .string E.tenant, .int .u64 (E.n : Int), .int .i64 E.m, .int .u64 (E.bits : Int), .slice ad E.data.length cd] 44)) := (Below.refl _ _).alloc (Nat.le_refl _) _
    have B3 := Lib.hid (bt B2.out b3)
    have E3 := C8.new w2 (.int .i64 E.kind) (.int .i64 E.session) (.int .i64 E.stream) (.string E.tenant) (.int .u64 (E.n : Int)) (.int .i64 E.m) (.int .u64 (E.bits : Int)) (.slice ad E.data.length cd) 44
    have HC3 := Lib.hid (crow_below HC.out.1 b3)
    have R3 := Lib.hid (H.out.below B3.out)
    generalize w2.alloc (.cells #[.int .i64 E.kind, .int .i64 E.session, .int .i64 E.stream, .string E.tenant, .int .u64 (E.n : Int), .int .i64 E.m, .int .u64 (E.bits : Int), .slice ad E.data.length cd] 44) = W3 at *
    obtain ⟨x0, x1, x2, x3, x4, x5, x6, x7, xf⟩ := E3
    have r3 := R3.out.c3
    have rl : r < W3.heap.size := R3.out.lt
    obtain ⟨ae, ce, rfl⟩ := own_form R3.out.oe
    clear xf b3
    go_region_law (refine step_append_one (by rfl) (.tmp 32) (.tmp 34) 25 44 (by rfl) n0 i0 _ 8 88 Tryz.underlying25 hi hz0 hz1 hz2 rfl (by decide) _ st.evs.length (flatE st.evs ds) (by rfl) (by exact World.ownsRow.alloc R3.out.oe _) ⟨_, 0, none⟩ [.int .i64 E.kind, .int .i64 E.session, .int .i64 E.stream, .string E.tenant, .int .u64 (E.n : Int), .int .i64 E.m, .int .u64 (E.bits : Int), .slice ad E.data.length cd] (by rfl) rfl (by exact newN _ _ _ _ rfl) (by simp [Value.oneCell']) hn (by decide) (by have := R3.out.n0_le; simp; omega) ?_; intro g' cap' w5 hown5 hgrow5 hat5; have y0 := (grow_r R3.out hgrow5).1; have y1 := (grow_r R3.out hgrow5).2)
    all_goals
      have hpush := H.out.push_ev (e := E) (bt B3.out ((Below.refl _ _).alloc (Nat.le_refl _) _).drew) hown5 hgrow5 hat5 (crow_below HC3.out ((Below.refl _ _).alloc (Nat.le_refl _) _).drew) (fun b hb => HC.out.2 b (by omega))
      have HPU := Lib.hid hpush
      clear hpush hown5 hgrow5 hat5
      go_wp2
      go_ret
      exact ⟨by rw [HO.out]; rfl, fun st' e => (by rw [HO.out] at e; cases Option.some.inj e; exact HPU.out.1), HPU.out.2⟩
end
end Go.Proofs.YtinabbdecmjcpaaGreatDoor.Script

namespace Go.Proofs.YtinabbdecmjcpaaGreatDoor.Script
open Go.RowKit Go.Deep Go.Proofs.YtinabbdecmjcpaaGreatDoor Go.Proofs.YtinabbdecmjcpaaGreatDoor.Plain Go.Proofs.YtinabbdecmjcpaaGreatDoor.Words Go.Proofs.YtinabbdecmjcpaaGreatDoor.Named Go.Proofs.YtinabbdecmjcpaaGreatDoor.Hex Go.Proofs.YtinabbdecmjcpaaGreatDoor.Number Go.Proofs.YtinabbdecmjcpaaGreatDoor.Queue Go.Proofs.YtinabbdecmjcpaaGreatDoor.Line Go.Proofs.YtinabbdecmjcpaaGreatDoor.Ev
set_option linter.unusedVariables false

theorem fields1 (l wd : List UInt8) (h : checkOf (words l) wd [115] = 0) : ∃ f, fieldsOf (words l) [115] = [f] ∧ f.n ≤ 2147483647 := by
  obtain ⟨xs, hw, hlen, hs⟩ := check_zero _ _ _ h
  rw [hw]
  match xs, hlen with
  | [x], _ =>
    obtain ⟨a, _⟩ := signs_cons _ _ _ _ hs
    refine ⟨_, rfl, ?_⟩
    obtain ⟨e, _, b⟩ := err_s x a
    rw [e]
    exact b
theorem fields2 (l wd : List UInt8) (h : checkOf (words l) wd [116, 98] = 0) : ∃ f g, fieldsOf (words l) [116, 98] = [f, g] ∧ g.data.length ≤ l.length := by
  obtain ⟨xs, hw, hlen, hs⟩ := check_zero _ _ _ h
  have hj := (words_back _ _ hw).1
  rw [hw]
  match xs, hlen with
  | [x, y], _ =>
    obtain ⟨_, b⟩ := signs_cons _ _ _ _ hs
    obtain ⟨b, _⟩ := signs_cons _ _ _ _ b
    refine ⟨_, _, rfl, ?_⟩
    obtain ⟨d, e, hb⟩ := err_b y b
    rw [e]
    have h1 := data_len y d hb
    have h2 := join_len (wd :: [x, y]) y (by simp)
    rw [hj] at h2
    exact Nat.le_trans h1 h2
theorem frow_form {W : World} {B : Nat} {v : Value} {fs : List Fld} (h : FRow W B v fs) : ∃ g cap, v = .slice (some ⟨g, 0, none⟩) fs.length cap ∧ ∀ (i : Nat) (f : Fld), fs[i]? = some f → W.cell? ⟨g, i * 3, none⟩ = some (.string (S f.text)) ∧ W.cell? ⟨g, i * 3 + 1, none⟩ = some (.int .u64 (f.n : Int)) ∧ ∃ d, W.cell? ⟨g, i * 3 + 2, none⟩ = some d ∧ CRow W d f.data ∧ ∀ b, b < B → Off d b := by
  obtain ⟨g, cap, dvs, rfl, hg, ho, hd⟩ := h
  refine ⟨g, cap, rfl, fun i f hf => ?_⟩
  have hi : i < fs.length := (List.getElem?_eq_some_iff.1 hf).1
  have hid : i < dvs.length := by rw [hd.1]; exact hi
  obtain ⟨d, hdv⟩ : ∃ d, dvs[i]? = some d := ⟨_, List.getElem?_eq_getElem hid⟩
  obtain ⟨q0, q1, q2⟩ := flat_get fs dvs i f d hf hdv
  have hx := hd.2 i f d hf hdv
  exact ⟨(World.ownsRow.cellAt ho (i * 3) (by omega)).trans q0, (World.ownsRow.cellAt ho (i * 3 + 1) (by omega)).trans q1, d, (World.ownsRow.cellAt ho (i * 3 + 2) (by omega)).trans q2, hx.1, hx.2.2⟩

section
variable {w : World} {n0 : Nat} {ex : List Nat} {r : Nat} {st : Rd} {vt ve : Value} {ks ds : List Value}
set_option maxRecDepth 100000 in
set_option maxHeartbeats 8000000 in
theorem take_cap (x : ByteArray) (hp : Plainly x) (hs : x.size ≤ 100000) (h2 : first (words (L x)) = wCap) (h : RdIs w n0 ex r st vt ve ks ds) :
    Calls Tryz.prog 28 #[.pointer (some ⟨r, 0, none⟩), .string x] w (TakePost st (takeOf st (L x)) n0 ex r w) := by
  have H := Lib.hid h
  have h1 : first (words (L x)) ≠ wTen := by rw [h2]; decide
  have h3 : first (words (L x)) ≠ wSes := by rw [h2]; decide
  have ht : takeOf st (L x) = (if checkOf (words (L x)) wCap [115] ≠ 0 ∨ st.evs ≠ [] then none
     else match fieldsOf (words (L x)) [115] with
       | [f] => some { st with cap := f.n }
       | _ => none) := by
    unfold takeOf
    rw [if_neg (plainly_take hp), if_neg h1, if_pos h2]
    rfl
  generalize takeOf st (L x) = O at *
  obtain ⟨hx, hc⟩ := hp
  obtain ⟨e1, e2⟩ := empty_no x hx
  have hcn : (((x[0]'hx).toNat : Int) == 35) = false := by
    rw [beq_eq_false_iff_ne]
    intro e
    apply hc
    apply UInt8.toNat_inj.1
    show (x[0]'hx).toNat = 35
    omega
  have ix : ∀ W, (Instr.index 9 (.string x) (.int .i64 0)).run Tryz.prog W = .ok (.int .u8 ((x[0]'hx).toNat : Int)) W := fun W => by go_simp
  generalize (x[0]'hx).toNat = c0 at *
  have hwd := Lib.hid (fun W => word_any x W (by omega))
  have hlr := Lib.hid (fun W => lineread_any x (S wCap) (S [115]) W (by omega) (by show [115].toArray.size ≤ _; simp) (by intro c hc; have : c ∈ [115] := hc; simp at this; subst this; rfl))
  rw [first_eq, h2] at hwd
  rw [show L (S wCap) = wCap from rfl, show L (S [115]) = [115] from rfl] at hlr
  have t1 : ((S wCap).toList == [116, 101, 110, 97, 110, 116]) = false := str_ne _ _ (by decide)
  have t2 : ((S wCap).toList == [99, 97, 112, 97, 99, 105, 116, 121]) = true := str_eq _ _ rfl
  have t1' : ¬ (S wCap).toList = [116, 101, 110, 97, 110, 116] := by rw [beq_eq_false_iff_ne] at t1; exact t1
  have hf1 := fields1 (L x) wCap
  generalize checkOf (words (L x)) wCap [115] = ER at *
  generalize fieldsOf (words (L x)) [115] = FS at *
  have HT := Lib.hid ht
  have HF := Lib.hid hf1
  clear h h1 h2 h3 ht hc hf1
  generalize S wCap = y at *
  rw [show S [115] = ⟨#[115]⟩ from rfl] at hlr
  obtain ⟨ae, ce, hve⟩ := own_form H.out.oe
  subst hve
  go_enter Tryz.func28, Tryz.ntmps28
  go_wp2_with fail
  refine (hwd.out _).mono ?_
  rintro e w1 ⟨rfl, hb1⟩
  have B1 := Lib.hid hb1
  clear hb1
  go_wp2_with fail
  refine (hlr.out _).mono ?_
  rintro e w2 ⟨v, rfl, hb2, hv0, hv1⟩
  have B2 := Lib.hid (bt B1.out hb2)
  have hs1 := B1.out.size
  have R2 := Lib.hid (H.out.below B2.out)
  have r3 := R2.out.c3
  clear hb2
  by_cases her : ER = 0
  rotate_left
  · have t : ((ER : Int) != 0) = true := by rw [bne_iff_ne]; omega
    obtain rfl := hv0 her
    have hO : O = none := by rw [HT.out, if_pos (.inl her)]
    have HO := Lib.hid hO
    clear hO hv0 hv1
    go_wp2
    go_ret
    refine ⟨by rw [HO.out]; rfl, fun st' e => (by rw [HO.out] at e; cases e), ?_⟩
    exact TFr.of_below B2.out H.out.n0_le H.out.ex_lt
  · have t : ((ER : Int) != 0) = false := by rw [bne_eq_false_iff_eq]; omega
    obtain ⟨f, rfl, hfn⟩ := HF.out her
    obtain ⟨g, cap, rfl, hcell⟩ := frow_form (hv1 her)
    by_cases hev : st.evs = []
    rotate_left
    · have hlen : 0 < st.evs.length := List.length_pos_iff.2 hev
      have tl : decide ((0 : Int) < (st.evs.length : Int)) = true := decide_eq_true (by omega)
      have hO : O = none := by rw [HT.out, if_pos (.inr hev)]
      have HO := Lib.hid hO
      clear hO hv0 hv1 hcell
      go_wp2
      go_ret
      refine ⟨by rw [HO.out]; rfl, fun st' e => (by rw [HO.out] at e; cases e), ?_⟩
      exact TFr.of_below B2.out H.out.n0_le H.out.ex_lt
    · have hlen : st.evs.length = 0 := by rw [hev]; rfl
      have tl : decide ((0 : Int) < (st.evs.length : Int)) = false := decide_eq_false (by omega)
      have tl2 : decide (0 < st.evs.length) = false := decide_eq_false (by omega)
      have tl3 : ¬ 0 < st.evs.length := by omega
      have hO : O = some { st with cap := f.n } := by rw [HT.out, if_neg (by rintro (h | h); exact h her; exact h hev)]
      have HO := Lib.hid hO
      have c1 : w2.cell? ⟨g, 1, none⟩ = some (.int .u64 (f.n : Int)) := (hcell 0 f rfl).2.1
      have wn : IntKind.i64.wrap (f.n : Int) = (f.n : Int) := IntWalk.i64_in _ (by omega)
      have r1 := R2.out.c1
      have rf := R2.out.fz 1
      have hset := H.out.set_cap (k := (f.n : Int)) B2.out
      have HS := Lib.hid hset
      clear hO hv0 hv1 hcell hset hev hlen
      simp only [List.length_cons, List.length_nil, Nat.zero_add] at *
      go_wp2
      go_ret
      exact ⟨by rw [HO.out]; rfl, fun st' e => (by rw [HO.out] at e; cases Option.some.inj e; exact HS.out.1), HS.out.2⟩
set_option maxRecDepth 100000 in
set_option maxHeartbeats 8000000 in
theorem take_ses (x : ByteArray) (hp : Plainly x) (hs : x.size ≤ 100000) (h3 : first (words (L x)) = wSes) (h : RdIs w n0 ex r st vt ve ks ds) :
    Calls Tryz.prog 28 #[.pointer (some ⟨r, 0, none⟩), .string x] w (TakePost st (takeOf st (L x)) n0 ex r w) := by
  have H := Lib.hid h
  have h1 : first (words (L x)) ≠ wTen := by rw [h3]; decide
  have h2 : first (words (L x)) ≠ wCap := by rw [h3]; decide
  have ht : takeOf st (L x) = (if checkOf (words (L x)) wSes [115] ≠ 0 ∨ st.evs ≠ [] then none
     else match fieldsOf (words (L x)) [115] with
       | [f] => some { st with sess := f.n }
       | _ => none) := by
    unfold takeOf
    rw [if_neg (plainly_take hp), if_neg h1, if_neg h2, if_pos h3]
    rfl
  generalize takeOf st (L x) = O at *
  obtain ⟨hx, hc⟩ := hp
  obtain ⟨e1, e2⟩ := empty_no x hx
  have hcn : (((x[0]'hx).toNat : Int) == 35) = false := by
    rw [beq_eq_false_iff_ne]
    intro e
    apply hc
    apply UInt8.toNat_inj.1
    show (x[0]'hx).toNat = 35
    omega
  have ix : ∀ W, (Instr.index 9 (.string x) (.int .i64 0)).run Tryz.prog W = .ok (.int .u8 ((x[0]'hx).toNat : Int)) W := fun W => by go_simp
  generalize (x[0]'hx).toNat = c0 at *
  have hwd := Lib.hid (fun W => word_any x W (by omega))
  have hlr := Lib.hid (fun W => lineread_any x (S wSes) (S [115]) W (by omega) (by show [115].toArray.size ≤ _; simp) (by intro c hc; have : c ∈ [115] := hc; simp at this; subst this; rfl))
  rw [first_eq, h3] at hwd
  rw [show L (S wSes) = wSes from rfl, show L (S [115]) = [115] from rfl] at hlr
  have t1 : ((S wSes).toList == [116, 101, 110, 97, 110, 116]) = false := str_ne _ _ (by decide)
  have t2 : ((S wSes).toList == [99, 97, 112, 97, 99, 105, 116, 121]) = false := str_ne _ _ (by decide)
  have t3 : ((S wSes).toList == [115, 101, 115, 115, 105, 111, 110, 115]) = true := str_eq _ _ rfl
  have t2' : ¬ (S wSes).toList = [99, 97, 112, 97, 99, 105, 116, 121] := by rw [beq_eq_false_iff_ne] at t2; exact t2
  have t1' : ¬ (S wSes).toList = [116, 101, 110, 97, 110, 116] := by rw [beq_eq_false_iff_ne] at t1; exact t1
  have hf1 := fields1 (L x) wSes
  generalize checkOf (words (L x)) wSes [115] = ER at *
  generalize fieldsOf (words (L x)) [115] = FS at *
  have HT := Lib.hid ht
  have HF := Lib.hid hf1
  clear h h1 h2 h3 ht hc hf1
  generalize S wSes = y at *
  rw [show S [115] = ⟨#[115]⟩ from rfl] at hlr
  obtain ⟨ae, ce, hve⟩ := own_form H.out.oe
  subst hve
  go_enter Tryz.func28, Tryz.ntmps28
  go_wp2_with fail
  refine (hwd.out _).mono ?_
  rintro e w1 ⟨rfl, hb1⟩
  have B1 := Lib.hid hb1
  clear hb1
  go_wp2_with fail
  refine (hlr.out _).mono ?_
  rintro e w2 ⟨v, rfl, hb2, hv0, hv1⟩
  have B2 := Lib.hid (bt B1.out hb2)
  have hs1 := B1.out.size
  have R2 := Lib.hid (H.out.below B2.out)
  have r3 := R2.out.c3
  clear hb2
  by_cases her : ER = 0
  rotate_left
  · have t : ((ER : Int) != 0) = true := by rw [bne_iff_ne]; omega
    obtain rfl := hv0 her
    have hO : O = none := by rw [HT.out, if_pos (.inl her)]
    have HO := Lib.hid hO
    clear hO hv0 hv1
    go_wp2
    go_ret
    refine ⟨by rw [HO.out]; rfl, fun st' e => (by rw [HO.out] at e; cases e), ?_⟩
    exact TFr.of_below B2.out H.out.n0_le H.out.ex_lt
  · have t : ((ER : Int) != 0) = false := by rw [bne_eq_false_iff_eq]; omega
    obtain ⟨f, rfl, hfn⟩ := HF.out her
    obtain ⟨g, cap, rfl, hcell⟩ := frow_form (hv1 her)
    by_cases hev : st.evs = []
    rotate_left
    · have hlen : 0 < st.evs.length := List.length_pos_iff.2 hev
      have tl : decide ((0 : Int) < (st.evs.length : Int)) = true := decide_eq_true (by omega)
      have hO : O = none := by rw [HT.out, if_pos (.inr hev)]
      have HO := Lib.hid hO
      clear hO hv0 hv1 hcell
      go_wp2
      go_ret
      refine ⟨by rw [HO.out]; rfl, fun st' e => (by rw [HO.out] at e; cases e), ?_⟩
      exact TFr.of_below B2.out H.out.n0_le H.out.ex_lt
    · have hlen : st.evs.length = 0 := by rw [hev]; rfl
      have tl : decide ((0 : Int) < (st.evs.length : Int)) = false := decide_eq_false (by omega)
      have tl2 : decide (0 < st.evs.length) = false := decide_eq_false (by omega)
      have tl3 : ¬ 0 < st.evs.length := by omega
      have hO : O = some { st with sess := f.n } := by rw [HT.out, if_neg (by rintro (h | h); exact h her; exact h hev)]
      have HO := Lib.hid hO
      have c1 : w2.cell? ⟨g, 1, none⟩ = some (.int .u64 (f.n : Int)) := (hcell 0 f rfl).2.1
      have wn : IntKind.i64.wrap (f.n : Int) = (f.n : Int) := IntWalk.i64_in _ (by omega)
      have r1 := R2.out.c2
      have rf := R2.out.fz 2
      have hset := H.out.set_ses (k := (f.n : Int)) B2.out
      have HS := Lib.hid hset
      clear hO hv0 hv1 hcell hset hev hlen
      simp only [List.length_cons, List.length_nil, Nat.zero_add] at *
      go_wp2
      go_ret
      exact ⟨by rw [HO.out]; rfl, fun st' e => (by rw [HO.out] at e; cases Option.some.inj e; exact HS.out.1), HS.out.2⟩
theorem grow_t {w' : World} {o : Obj} (h : RdIs w n0 ex r st vt ve ks ds) (hg : (w.alloc o).drew.grownBy w' vt.ownBlock) : w'.cell? ⟨r, 0, none⟩ = some vt ∧ w'.frozen? ⟨r, 0, none⟩ = false := by
  have h' : RdIs (w.alloc o).drew n0 ex r st vt ve ks ds := h.below ((Below.refl _ _).alloc (Nat.le_refl _) _).drew
  have hr := (chg_grow hg).block r h'.lt (by simpa using h.at')
  exact ⟨(World.cell?_of_block (w := (w.alloc o).drew) (a := ⟨r, 0, none⟩) hr).trans h'.c0, (World.frozen?_of_block (w := (w.alloc o).drew) (a := ⟨r, 0, none⟩) hr).trans (h'.fz 0)⟩
set_option maxRecDepth 100000 in
set_option maxHeartbeats 8000000 in
theorem take_ten (x : ByteArray) (hp : Plainly x) (hs : x.size ≤ 100000) (h1 : first (words (L x)) = wTen) (hn : st.tens.length + 1 ≤ 1000000) (h : RdIs w n0 ex r st vt ve ks ds) :
    Calls Tryz.prog 28 #[.pointer (some ⟨r, 0, none⟩), .string x] w (TakePost st (takeOf st (L x)) n0 ex r w) := by
  have H := Lib.hid h
  have ht : takeOf st (L x) = (if checkOf (words (L x)) wTen [116, 98] ≠ 0 ∨ st.evs ≠ [] then none
     else match fieldsOf (words (L x)) [116, 98] with
       | [f, g] => some { st with tens := st.tens ++ [⟨S f.text, g.data⟩] }
       | _ => none) := by
    unfold takeOf
    rw [if_neg (plainly_take hp), if_pos h1]
    rfl
  generalize takeOf st (L x) = O at *
  obtain ⟨hx, hc⟩ := hp
  obtain ⟨e1, e2⟩ := empty_no x hx
  have hcn : (((x[0]'hx).toNat : Int) == 35) = false := by
    rw [beq_eq_false_iff_ne]
    intro e
    apply hc
    apply UInt8.toNat_inj.1
    show (x[0]'hx).toNat = 35
    omega
  have ix : ∀ W, (Instr.index 9 (.string x) (.int .i64 0)).run Tryz.prog W = .ok (.int .u8 ((x[0]'hx).toNat : Int)) W := fun W => by go_simp
  generalize (x[0]'hx).toNat = c0 at *
  have hwd := Lib.hid (fun W => word_any x W (by omega))
  have hlr := Lib.hid (fun W => lineread_any x (S wTen) (S [116, 98]) W (by omega) (by show [116, 98].toArray.size ≤ _; simp) (by intro c hc; have : c ∈ [116, 98] := hc; simp at this; rcases this with rfl | rfl <;> rfl))
  rw [first_eq, h1] at hwd
  rw [show L (S wTen) = wTen from rfl, show L (S [116, 98]) = [116, 98] from rfl] at hlr
  have t1 : ((S wTen).toList == [116, 101, 110, 97, 110, 116]) = true := str_eq _ _ rfl
  have hf1 := fields2 (L x) wTen
  generalize checkOf (words (L x)) wTen [116, 98] = ER at *
  generalize fieldsOf (words (L x)) [116, 98] = FS at *
  have HT := Lib.hid ht
  have HF := Lib.hid hf1
  clear h h1 ht hc hf1
  generalize S wTen = y at *
  rw [show S [116, 98] = ⟨#[116, 98]⟩ from rfl] at hlr
  obtain ⟨ae, ce, hve⟩ := own_form H.out.oe
  subst hve
  obtain ⟨at1, ct, hvt⟩ := own_form H.out.ot
  subst hvt
  obtain ⟨i0, hi, hz0, hz1, hz2⟩ := info_parts info67
  go_enter Tryz.func28, Tryz.ntmps28
  go_wp2_with fail
  refine (hwd.out _).mono ?_
  rintro e w1 ⟨rfl, hb1⟩
  have B1 := Lib.hid hb1
  clear hb1
  go_wp2_with fail
  refine (hlr.out _).mono ?_
  rintro e w2 ⟨v, rfl, hb2, hv0, hv1⟩
  have B2 := Lib.hid (bt B1.out hb2)
  have hs1 := B1.out.size
  have R2 := Lib.hid (H.out.below B2.out)
  have r3 := R2.out.c3
  clear hb2
  by_cases her : ER = 0
  rotate_left
  · have t : ((ER : Int) != 0) = true := by rw [bne_iff_ne]; omega
    obtain rfl := hv0 her
    have hO : O = none := by rw [HT.out, if_pos (.inl her)]
    have HO := Lib.hid hO
    clear hO hv0 hv1
    go_wp2
    go_ret
    refine ⟨by rw [HO.out]; rfl, fun st' e => (by rw [HO.out] at e; cases e), ?_⟩
    exact TFr.of_below B2.out H.out.n0_le H.out.ex_lt
  · have t : ((ER : Int) != 0) = false := by rw [bne_eq_false_iff_eq]; omega
    obtain ⟨f, f2, rfl, hfn⟩ := HF.out her
    obtain ⟨g, cap, rfl, hcell⟩ := frow_form (hv1 her)
    by_cases hev : st.evs = []
    rotate_left
    · have hlen : 0 < st.evs.length := List.length_pos_iff.2 hev
      have tl : decide ((0 : Int) < (st.evs.length : Int)) = true := decide_eq_true (by omega)
      have hO : O = none := by rw [HT.out, if_pos (.inr hev)]
      have HO := Lib.hid hO
      clear hO hv0 hv1 hcell
      go_wp2
      go_ret
      refine ⟨by rw [HO.out]; rfl, fun st' e => (by rw [HO.out] at e; cases e), ?_⟩
      exact TFr.of_below B2.out H.out.n0_le H.out.ex_lt
    · have hlen : st.evs.length = 0 := by rw [hev]; rfl
      have tl : decide ((0 : Int) < (st.evs.length : Int)) = false := decide_eq_false (by omega)
      have tl2 : decide (0 < st.evs.length) = false := decide_eq_false (by omega)
      have tl3 : ¬ 0 < st.evs.length := by omega
      have hO : O = some { st with tens := st.tens ++ [⟨S f.text, f2.data⟩] } := by rw [HT.out, if_neg (by rintro (h | h); exact h her; exact h hev)]
      have HO := Lib.hid hO
      have q0 : w2.cell? ⟨g, 0, none⟩ = some (.string (S f.text)) := (hcell 0 f rfl).1
      obtain ⟨kv, q5, hkr, hko⟩ := (hcell 1 f2 rfl).2.2
      obtain ⟨ak, ck, rfl⟩ := crow_form hkr
      simp only [Nat.reduceMul, Nat.reduceAdd] at q5
      have HK := Lib.hid (And.intro hkr hko)
      have r0 := R2.out.c0
      have rl : r < w2.heap.size := R2.out.lt
      clear hO hv0 hv1 hcell hev hlen hkr hko
      simp only [List.length_cons, List.length_nil, Nat.zero_add, Nat.reduceAdd] at *
      generalize hnm : S f.text = nm at *
      go_wp2_with fail
      go_region_law (refine step_append_one (by rfl) (.tmp 77) (.tmp 87) 22 46 (by rfl) n0 i0 _ 2 40 Tryz.underlying22 hi hz0 hz1 hz2 rfl (by decide) _ st.tens.length (flatT st.tens ks) (by rfl) (by exact World.ownsRow.alloc R2.out.ot _) ⟨_, 0, none⟩ [.string nm, .slice ak f2.data.length ck] (by rfl) rfl (by exact newN _ _ _ _ rfl) (by simp [Value.oneCell']) hn (by decide) (by have := R2.out.n0_le; simp; omega) ?_; intro g' cap' w5 hown5 hgrow5 hat5; have y0 := (grow_t R2.out hgrow5).1; have y1 := (grow_t R2.out hgrow5).2)
      all_goals
        have hpush := H.out.push_ten (t := ⟨nm, f2.data⟩) (bt B2.out ((Below.refl _ _).alloc (Nat.le_refl _) _).drew) hown5 hgrow5 hat5 (crow_below HK.out.1 ((Below.refl _ _).alloc (Nat.le_refl _) _).drew) (fun b hb => HK.out.2 b (by omega))
        have HPU := Lib.hid hpush
        clear hpush hown5 hgrow5 hat5
        go_wp2
        go_ret
        exact ⟨by rw [HO.out]; rfl, fun st' e => (by rw [HO.out] at e; cases Option.some.inj e; exact HPU.out.1), HPU.out.2⟩
/-- The reader's take, of any line. -/
theorem take_any (x : ByteArray) (hs : x.size ≤ 100000) (hn : st.tens.length + 1 ≤ 1000000) (hm : st.evs.length + 1 ≤ 1000000) (h : RdIs w n0 ex r st vt ve ks ds) :
    Calls Tryz.prog 28 #[.pointer (some ⟨r, 0, none⟩), .string x] w (TakePost st (takeOf st (L x)) n0 ex r w) := by
  by_cases hx : 0 < x.size
  · by_cases hc : (x[0]'hx) = 35
    · exact take_note x hx hc h
    · have hp : Plainly x := ⟨hx, hc⟩
      by_cases h1 : first (words (L x)) = wTen
      · exact take_ten x hp hs h1 hn h
      · by_cases h2 : first (words (L x)) = wCap
        · exact take_cap x hp hs h2 h
        · by_cases h3 : first (words (L x)) = wSes
          · exact take_ses x hp hs h3 h
          · exact take_ev x hp hs h1 h2 h3 hm h
  · have e : x = ⟨#[]⟩ := by
      have : L x = [] := List.length_eq_zero_iff.1 (by rw [L_len]; omega)
      rw [← S_L x, this]
    subst e
    exact take_empty h
end
end Go.Proofs.YtinabbdecmjcpaaGreatDoor.Script
