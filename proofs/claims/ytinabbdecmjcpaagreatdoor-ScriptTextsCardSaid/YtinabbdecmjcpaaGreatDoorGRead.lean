/- The contract of script.Read: the setup and the events of a text, or the line that errs. -/
import Derived.Test.YtinabbdecmjcpaaGreatDoorGReadA
namespace Go.Proofs.YtinabbdecmjcpaaGreatDoor.Script
open Go.RowKit Go.Shelf Go.Deep Go.Proofs.YtinabbdecmjcpaaGreatDoor Go.Proofs.YtinabbdecmjcpaaGreatDoor.Plain Go.Proofs.YtinabbdecmjcpaaGreatDoor.Words Go.Proofs.YtinabbdecmjcpaaGreatDoor.Named Go.Proofs.YtinabbdecmjcpaaGreatDoor.Hex Go.Proofs.YtinabbdecmjcpaaGreatDoor.Number Go.Proofs.YtinabbdecmjcpaaGreatDoor.Queue Go.Proofs.YtinabbdecmjcpaaGreatDoor.Line Go.Proofs.YtinabbdecmjcpaaGreatDoor.Ev
attribute [local go_sem] Oper.semAt_some
set_option linter.unusedVariables false

/-- Read's answer is written. -/
def wr6 (W : World) (N : Nat) (a0 a1 a2 a3 a4 a5 : Value) : World := (((((W.setCell ⟨N, 0, none⟩ a0).setCell ⟨N, 1, none⟩ a1).setCell ⟨N, 2, none⟩ a2).setCell ⟨N + 1, 0, none⟩ a3).setCell ⟨N + 2, 0, none⟩ a4).setCell ⟨N + 3, 0, none⟩ a5
theorem wr6_is {w W : World} {N : Nat} {c0 c1 c2 c3 c4 c5 k : Value} (a0 a1 a2 a3 a4 a5 : Value) (o : Own5 W N c0 c1 c2 c3 c4 c5 k) (hb : Below N w W) : KeepsOthers W (wr6 W N a0 a1 a2 a3 a4 a5) ∧ Own5 (wr6 W N a0 a1 a2 a3 a4 a5) N a0 a1 a2 a3 a4 a5 k ∧ Below N w (wr6 W N a0 a1 a2 a3 a4 a5) := by
  have fz : ∀ p, (wr6 W N a0 a1 a2 a3 a4 a5).frozen? p = W.frozen? p := fun p => by simp only [wr6, World.frozen?_setCell]
  refine ⟨?_, ⟨⟨?_, ?_, ?_, fun i => (fz _).trans (o.s.f i)⟩, ⟨?_, (fz _).trans o.e.f⟩, ⟨?_, (fz _).trans o.n.f⟩, ⟨?_, (fz _).trans o.er.f⟩, ⟨?_, (fz _).trans o.k.f⟩⟩, ?_⟩
  · exact (((((KeepsOthers.setCell _ _ _).trans (KeepsOthers.setCell _ _ _)).trans (KeepsOthers.setCell _ _ _)).trans (KeepsOthers.setCell _ _ _)).trans (KeepsOthers.setCell _ _ _)).trans (KeepsOthers.setCell _ _ _)
  · refine (cset_b (by omega)).trans ((cset_b (by omega)).trans ((cset_b (by omega)).trans ((cset_o (by decide)).trans ((cset_o (by decide)).trans (cset_s o.s.c0)))))
  · refine (cset_b (by omega)).trans ((cset_b (by omega)).trans ((cset_b (by omega)).trans ((cset_o (by decide)).trans (cset_s ((cset_o (by decide)).trans o.s.c1)))))
  · refine (cset_b (by omega)).trans ((cset_b (by omega)).trans ((cset_b (by omega)).trans (cset_s ((cset_o (by decide)).trans ((cset_o (by decide)).trans o.s.c2)))))
  · refine (cset_b (by omega)).trans ((cset_b (by omega)).trans (cset_s ((cset_b (by omega)).trans ((cset_b (by omega)).trans ((cset_b (by omega)).trans o.e.c)))))
  · refine (cset_b (by omega)).trans (cset_s ((cset_b (by omega)).trans ((cset_b (by omega)).trans ((cset_b (by omega)).trans ((cset_b (by omega)).trans o.n.c)))))
  · refine cset_s ((cset_b (by omega)).trans ((cset_b (by omega)).trans ((cset_b (by omega)).trans ((cset_b (by omega)).trans ((cset_b (by omega)).trans o.er.c)))))
  · refine (cset_b (by omega)).trans ((cset_b (by omega)).trans ((cset_b (by omega)).trans ((cset_b (by omega)).trans ((cset_b (by omega)).trans ((cset_b (by omega)).trans o.k.c)))))
  · exact (((((hb.setCell (Nat.le_refl _) _).setCell (Nat.le_refl _) _).setCell (Nat.le_refl _) _).setCell (by show N ≤ N + 1; omega) _).setCell (by show N ≤ N + 2; omega) _).setCell (by show N ≤ N + 3; omega) _
theorem drew_own {W : World} {N : Nat} {c0 c1 c2 c3 c4 c5 k : Value} (o : Own5 W N c0 c1 c2 c3 c4 c5 k) : Own5 W.drew N c0 c1 c2 c3 c4 c5 k := o.same (fun _ _ => rfl)


theorem wr6_chg (W : World) (N : Nat) (a0 a1 a2 a3 a4 a5 : Value) : Chg [N, N + 1, N + 2, N + 3] W (wr6 W N a0 a1 a2 a3 a4 a5) :=
  ((((((Chg.refl _ W).setCell (p := ⟨N, 0, none⟩) (by simp) _).setCell (p := ⟨N, 1, none⟩) (by simp) _).setCell (p := ⟨N, 2, none⟩) (by simp) _).setCell (p := ⟨N + 1, 0, none⟩) (by simp) _).setCell (p := ⟨N + 2, 0, none⟩) (by simp) _).setCell (p := ⟨N + 3, 0, none⟩) (by simp) _
theorem res45 {W : World} {N n0 c0 n3 c3 : Nat} {tmps : Array Value} {x0 x3 : Option Addr} {i1 i2 i4 i5 : Int} {k : Value} (h2 : tmps[2]?.getD undef = .pointer (some ⟨N, 0, none⟩)) (h3 : tmps[3]?.getD undef = .pointer (some ⟨N + 1, 0, none⟩)) (h4 : tmps[4]?.getD undef = .pointer (some ⟨N + 2, 0, none⟩)) (h5 : tmps[5]?.getD undef = .pointer (some ⟨N + 3, 0, none⟩))
    (o : Own5 W N (.slice x0 n0 c0) (.int .i64 i1) (.int .i64 i2) (.slice x3 n3 c3) (.int .i64 i4) (.int .i64 i5) k) : (results Tryz.f10 tmps).run Tryz.prog W = .ok (.tuple #[.agg #[.slice x0 n0 c0, .int .i64 i1, .int .i64 i2], .slice x3 n3 c3, .int .i64 i4, .int .i64 i5]) W := by
  have p0 := o.s.c0
  have p1 := o.s.c1
  have p2 := o.s.c2
  have p3 := o.e.c
  have p4 := o.n.c
  have p5 := o.er.c
  clear o
  simp [results, Tryz.results10, go_sem, h2, h3, h4, h5, p0, p1, p2, p3, p4, p5]
theorem off_D {D N : Nat} {W : World} (h : W.heap[D]? = some (.deferred (some []))) (hD : N + 7 ≤ D) {c0 c1 c2 c3 c4 c5 k : Value} (o : Own5 W N c0 c1 c2 c3 c4 c5 k) : Own5 (W.putObj D (.deferred none)) N c0 c1 c2 c3 c4 c5 k :=
  o.same (fun b hb => World.putObj_heap_other (by simp [exs] at hb; omega))
theorem below_D {D n : Nat} {w W : World} (hn : n ≤ D) (hb : Below n w W) : Below n w (W.putObj D (.deferred none)) :=
  ⟨hb.os, hb.tape, hb.output, by simpa using hb.size, fun k hk => (World.putObj_heap_other (show k ≠ D by omega)).trans (hb.block k hk)⟩
theorem end45 {W w : World} {N D n0 c0 n3 c3 : Nat} {tmps : Array Value} {x0 x3 : Option Addr} {i1 i2 i4 i5 : Int} {k : Value} {n : Nat} {s : ByteArray} (h2 : tmps[2]?.getD undef = .pointer (some ⟨N, 0, none⟩)) (h3 : tmps[3]?.getD undef = .pointer (some ⟨N + 1, 0, none⟩)) (h4 : tmps[4]?.getD undef = .pointer (some ⟨N + 2, 0, none⟩)) (h5 : tmps[5]?.getD undef = .pointer (some ⟨N + 3, 0, none⟩))
    (o : Own5 W N (.slice x0 n0 c0) (.int .i64 i1) (.int .i64 i2) (.slice x3 n3 c3) (.int .i64 i4) (.int .i64 i5) k) (hD : N + 7 ≤ D) (h : W.heap[D]? = some (.deferred (some [])))
    (hp : ReadPost s w (.returned (.tuple #[setV (.slice x0 n0 c0) i1 i2, .slice x3 n3 c3, .int .i64 i4, .int .i64 i5])) (W.putObj D (.deferred none))) :
    bodyPostM Fence.wide n Tryz.prog Tryz.f10 (ReadPost s w) .ret { tmps := tmps, defers := [{ target := .collected D, args := #[] }] } W :=
  ⟨by simp, .inl ⟨_, _, rfl, run_takeDeferred h, _, res45 h2 h3 h4 h5 (off_D h hD o), hp⟩⟩
theorem rd_end {W w2 X : World} {N D : Nat} {st : Rd} {vt ve : Value} {ks ds : List Value} (h : RdIs W N (exs N) (N + 4) st vt ve ks ds) (hb : Below W.heap.size W w2) (hX : Chg [N, N + 1, N + 2, N + 3] w2 X) (hD : X.drew.heap[D]? = some (.deferred (some []))) : RdIs (X.drew.putObj D (.deferred none)) N (exs N) (N + 4) st vt ve ks ds := by
  have h1 := h.below hb
  have h2 := h1.ck ((CK.of_chg hX).mono (b := exs N) (fun x hx => by simp [exs] at hx ⊢; omega))
  have h3 : RdIs X.drew N (exs N) (N + 4) st vt ve ks ds := h2.ck ⟨Nat.le_refl _, fun _ _ _ _ _ => rfl⟩
  exact h3.ck ((CK.of_kept (Kept.putObj (B := N + 6) (N := 0) (.deferred none) hD rfl (Nat.zero_le _))).mono (fun x hx => by simp [exs] at hx ⊢; omega))
theorem D_end {W w2 X : World} {N D : Nat} (hX : Chg [N, N + 1, N + 2, N + 3] w2 X) (h : W.heap[D]? = some (.deferred (some []))) (hb : Below W.heap.size W w2) (hD : N + 7 ≤ D) : X.drew.heap[D]? = some (.deferred (some [])) := by
  have hl := (Array.getElem?_eq_some_iff.1 h).1
  have h1 := (hb.block D hl).trans h
  exact (hX.block D (Nat.lt_of_lt_of_le hl hb.size) (by simp; omega)).trans h1
theorem leave8 {w W W1 : World} {pre : List ByteArray} {x : ByteArray} {st : Rd} (a : Act) (hk : KeepsOthers W W1) (o : Own5 W1 w.heap.size (.slice none 0 0) (.int .i64 0) (.int .i64 0) (.slice none 0 0) (.int .i64 0) (.int .i64 0) (.int .i64 ((pre.length : Int) + 1))) (hb : Below w.heap.size w W1) (hf : foldO pre rd0 = some st) (hl : lineOf st x = none) :
    roundEnd (w.heap.size + 6) (RI w) (RX w) (pre ++ [x]) W .ret a (wr6 W1 w.heap.size (.slice none 0 0) (.int .i64 0) (.int .i64 0) (.slice none 0 0) (.int .i64 ((pre.length : Int) + 1)) (.int .i64 2)).drew := by
  obtain ⟨h1, h2, h3⟩ := wr6_is (.slice none 0 0) (.int .i64 0) (.int .i64 0) (.slice none 0 0) (.int .i64 ((pre.length : Int) + 1)) (.int .i64 2) o hb
  have e : ((pre ++ [x]).length : Int) = (pre.length : Int) + 1 := by simp
  refine ⟨(hk.trans h1).trans (KeepsOthers.drew _), ⟨pre, x, st, rfl, hf, hl⟩, ⟨.int .i64 ((pre.length : Int) + 1), ?_⟩, h3.drew⟩
  rw [e]
  exact drew_own h2
theorem stay8 {w W W1 W2 : World} {pre : List ByteArray} {x : ByteArray} {st st' : Rd} (a : Act) (hk : KeepsOthers W W1) (o : Own5 W1 w.heap.size (.slice none 0 0) (.int .i64 0) (.int .i64 0) (.slice none 0 0) (.int .i64 0) (.int .i64 0) (.int .i64 ((pre.length : Int) + 1))) (hb : Below w.heap.size w W1) (hB : W1.heap[w.heap.size + 6]? = W.heap[w.heap.size + 6]?) (hf : foldO pre rd0 = some st) (hl : lineOf st x = some st') (hr : RdAt W2 w.heap.size (exs w.heap.size) (w.heap.size + 4) st') (ht : TFr w.heap.size (exs w.heap.size) W1 W2) :
    roundEnd (w.heap.size + 6) (RI w) (RX w) (pre ++ [x]) W .normal a W2 := by
  have e : ((pre ++ [x]).length : Int) = (pre.length : Int) + 1 := by simp
  have hB2 : W2.heap[w.heap.size + 6]? = W.heap[w.heap.size + 6]? := (ht.xs _ (by simp [exs])).trans hB
  refine ⟨hk.trans ht.ko, World.cell?_of_block (w := W) (a := ⟨w.heap.size + 6, 0, none⟩) hB2, World.frozen?_of_block (w := W) (a := ⟨w.heap.size + 6, 0, none⟩) hB2, ⟨st', ?_, hr⟩, ?_, ?_⟩
  · rw [foldO_snoc, hf]; exact hl
  · rw [e]; exact o.same ht.xs
  · exact below_tr ht.be hb

set_option maxRecDepth 100000 in
set_option maxHeartbeats 8000000 in
theorem read_in (n : Nat) (hn : 3 ≤ n) (s : ByteArray) (w : World) (hs : s.size ≤ 100000) : CallsIn Fence.wide n Tryz.prog 10 #[.string s] w (ReadPost s w) := by
  have h1 : 1 ≤ n := by omega
  obtain ⟨hRI, hC1⟩ := start_is w s
  have hz := start_size w s
  refine callsIn_of_wp_marks Tryz.func10 rfl trivial ?_ rfl
  simp only [Tryz.ntmps10, List.size_toArray, List.length_cons, List.length_nil, Nat.reduceAdd, Nat.reduceSub, Array.replicate_succ, Array.replicate_zero, List.push_toArray, List.append_toArray, List.nil_append, List.cons_append]
  gi_wp2_with (refine ⟨trivial, ?_⟩; refine (callsIn_wide.2 (lines68 _ _)).mono ?_; rintro e w' ⟨rfl, rfl⟩)
  have h2 : 1 ≤ n - 1 - 1 := by omega
  have hmix : Tryz.prog.follows .mixedOrders = true := by kernel_rfl
  have hlen := lines_len (L s)
  rw [L_len] at hlen
  have HLN := Lib.hid hlen
  clear hlen
  refine range_lines (w := start w s) (w.heap.size + 6) s h1 ?hg (by omega) hC1.c hC1.f rfl (RI w) (RX w) (fun pre W W' h hk => h.kept (by omega) hk) (fun pre W W' h hk => h.kept (by omega) hk) hRI (fun x => { tmps := #[.string s, undef, .pointer (some ⟨w.heap.size, 0, none⟩), .pointer (some ⟨w.heap.size + 1, 0, none⟩), .pointer (some ⟨w.heap.size + 1 + 1, 0, none⟩), .pointer (some ⟨w.heap.size + 1 + 1 + 1, 0, none⟩), .pointer (some ⟨w.heap.size + 1 + 1 + 1 + 1, 0, none⟩), .pointer (some ⟨w.heap.size + 1 + 1 + 1 + 1 + 1, 0, none⟩), .string x, undef, undef, .string s, .func (.func 43) #[] #[.pointer (some ⟨w.heap.size + 1 + 1 + 1 + 1 + 1 + 1, 0, none⟩)], .string x, undef, undef, undef, undef, undef, undef, undef, undef, undef, undef, undef, undef, undef, undef, undef, undef, undef, undef, undef, undef, undef, undef, undef, undef, undef, undef], defers := [] }) ?assign ?body ?done ?stop
  case hg => first | rfl | simp
  case assign =>
    intro l x W K hK
    gi_wp2
    exact hK
  case body =>
    rintro l pre x W ⟨⟨st, hfo, vt, ve, ks, ds, hrd⟩, hown, hbel⟩ hpre
    have hxs : x.size ≤ s.size := by
      have hm : L x ∈ linesOf (L s) := hpre.subset (by simp)
      have := HLN.out.1 _ hm
      rwa [L_len] at this
    have hpl : pre.length + 1 ≤ s.size := by
      have h3 := hpre.length_le
      have h4 := HLN.out.2
      simp at h3
      omega
    have hfl := fold_len pre rd0 st hfo
    have hfl' : st.tens.length + st.evs.length ≤ pre.length := by simpa [rd0] using hfl
    have c7 : W.cell? ⟨w.heap.size + 1 + 1 + 1 + 1 + 1, 0, none⟩ = some (.int .i64 (pre.length : Int)) := hown.k.c
    have f7 : W.frozen? ⟨w.heap.size + 1 + 1 + 1 + 1 + 1, 0, none⟩ = false := hown.k.f
    have wn : IntKind.i64.wrap ((pre.length : Int) + 1) = (pre.length : Int) + 1 := IntWalk.i64_in _ (by omega)
    have hc1 : Chg [w.heap.size + 5] W (W.setCell ⟨w.heap.size + 1 + 1 + 1 + 1 + 1, 0, none⟩ (.int .i64 ((pre.length : Int) + 1))) := (Chg.refl _ _).setCell (p := ⟨w.heap.size + 1 + 1 + 1 + 1 + 1, 0, none⟩) (by simp) _
    have hk1 : KeepsOthers W (W.setCell ⟨w.heap.size + 1 + 1 + 1 + 1 + 1, 0, none⟩ (.int .i64 ((pre.length : Int) + 1))) := KeepsOthers.setCell _ _ _
    have hrd1 := hrd.ck ((CK.of_chg hc1).mono (by simp [exs]))
    have hown1 : Own5 (W.setCell ⟨w.heap.size + 1 + 1 + 1 + 1 + 1, 0, none⟩ (.int .i64 ((pre.length : Int) + 1))) w.heap.size (.slice none 0 0) (.int .i64 0) (.int .i64 0) (.slice none 0 0) (.int .i64 0) (.int .i64 0) (.int .i64 ((pre.length : Int) + 1)) := by
      have q : ∀ b, b ≠ w.heap.size + 5 → (W.setCell ⟨w.heap.size + 1 + 1 + 1 + 1 + 1, 0, none⟩ (.int .i64 ((pre.length : Int) + 1))).heap[b]? = W.heap[b]? := fun b hb => Below.heap_setCell _ _ _ _ hb
      exact ⟨hown.s.same (q _ (by omega)), hown.e.same (q _ (by omega)), hown.n.same (q _ (by omega)), hown.er.same (q _ (by omega)), ⟨World.cell?_setCell_same _ _ _ hown.k.c, by rw [World.frozen?_setCell]; exact hown.k.f⟩⟩
    have hbel1 : Below w.heap.size w (W.setCell ⟨w.heap.size + 1 + 1 + 1 + 1 + 1, 0, none⟩ (.int .i64 ((pre.length : Int) + 1))) := hbel.setCell (p := ⟨w.heap.size + 1 + 1 + 1 + 1 + 1, 0, none⟩) (by show w.heap.size ≤ w.heap.size + 5; omega) _
    have hB1 : (W.setCell ⟨w.heap.size + 1 + 1 + 1 + 1 + 1, 0, none⟩ (.int .i64 ((pre.length : Int) + 1))).heap[w.heap.size + 6]? = W.heap[w.heap.size + 6]? := Below.heap_setCell _ _ _ _ (by show w.heap.size + 6 ≠ w.heap.size + 5; omega)
    have hcut := Lib.hid (fun W => cut69 x W (by omega))
    have X1 := Lib.hid (And.intro hk1 (And.intro hrd1 (And.intro hown1 (And.intro hbel1 hB1))))
    have HFO := Lib.hid hfo
    have HLO : Hid (lineOf st x = if ends x = true then takeOf st (L (x.extract 0 (x.size - 1))) else none) := Lib.hid rfl
    clear hc1 hk1 hrd1 hown1 hbel1 hB1 hfo hrd hown hbel hpre hfl
    cases he : ends x with
    | false =>
      rw [he] at hcut
      have hlo : lineOf st x = none := by rw [HLO.out, he]; rfl
      have HL0 := Lib.hid hlo
      simp only [Bool.false_eq_true, if_false] at hcut
      clear hlo he
      gi_wp2_with (refine ⟨trivial, ?_⟩; refine (CallsIn.inRound l (callsIn_wide.2 (hcut.out _))).mono ?_; rintro e w2 ⟨rfl, rfl⟩)
      generalize W.setCell ⟨w.heap.size + 1 + 1 + 1 + 1 + 1, 0, none⟩ (.int .i64 ((pre.length : Int) + 1)) = W1 at *
      have o := X1.out.2.2.1
      have p0 : W1.cell? ⟨w.heap.size, 0, none⟩ = some (.slice none 0 0) := o.s.c0
      have p1 : W1.cell? ⟨w.heap.size, 1, none⟩ = some (.int .i64 0) := o.s.c1
      have p2 : W1.cell? ⟨w.heap.size, 2, none⟩ = some (.int .i64 0) := o.s.c2
      have g0 : W1.frozen? ⟨w.heap.size, 0, none⟩ = false := o.s.f 0
      have g1 : W1.frozen? ⟨w.heap.size, 1, none⟩ = false := o.s.f 1
      have g2 : W1.frozen? ⟨w.heap.size, 2, none⟩ = false := o.s.f 2
      have p3 : W1.cell? ⟨w.heap.size + 1, 0, none⟩ = some (.slice none 0 0) := o.e.c
      have g3 : W1.frozen? ⟨w.heap.size + 1, 0, none⟩ = false := o.e.f
      have p4 : W1.cell? ⟨w.heap.size + 1 + 1, 0, none⟩ = some (.int .i64 0) := o.n.c
      have g4 : W1.frozen? ⟨w.heap.size + 1 + 1, 0, none⟩ = false := o.n.f
      have p5 : W1.cell? ⟨w.heap.size + 1 + 1 + 1, 0, none⟩ = some (.int .i64 0) := o.er.c
      have g5 : W1.frozen? ⟨w.heap.size + 1 + 1 + 1, 0, none⟩ = false := o.er.f
      have p6 : W1.cell? ⟨w.heap.size + 1 + 1 + 1 + 1 + 1, 0, none⟩ = some (.int .i64 ((pre.length : Int) + 1)) := o.k.c
      clear o c7 f7 wn
      gi_wp2
      refine ⟨trivial, ?_⟩
      gi_wp2
      gi_region_with_o (fail)
      all_goals
        gi_wp2
        exact leave8 _ X1.out.1 X1.out.2.2.1 X1.out.2.2.2.1 HFO.out HL0.out
    | true =>
      rw [he] at hcut
      have hlo : lineOf st x = takeOf st (L (x.extract 0 (x.size - 1))) := by rw [HLO.out, he]; rfl
      have HL0 := Lib.hid hlo
      simp only [if_true] at hcut
      have htk := Lib.hid (take_any (x.extract 0 (x.size - 1)) (by rw [ByteArray.size_extract]; omega) (by omega) (by omega) X1.out.2.1)
      clear hlo he
      generalize x.extract 0 (x.size - 1) = y at *
      generalize takeOf st (L y) = O at *
      cases O with
      | none =>
        gi_wp2_with (first | (refine ⟨trivial, ?_⟩; refine (CallsIn.inRound l (callsIn_wide.2 (hcut.out _))).mono ?_; rintro e w2 ⟨rfl, rfl⟩) | (refine ⟨trivial, ?_⟩; refine (CallsIn.inRound l (callsIn_wide.2 htk.out)).mono ?_; rintro e w2 ⟨rfl, _, htf⟩; have HTF := Lib.hid htf; clear htf))
        have o := X1.out.2.2.1.same HTF.out.xs
        have XK := Lib.hid (And.intro (X1.out.1.trans HTF.out.ko) (And.intro o (below_tr HTF.out.be X1.out.2.2.2.1)))
        have p0 : w2.cell? ⟨w.heap.size, 0, none⟩ = some (.slice none 0 0) := o.s.c0
        have p1 : w2.cell? ⟨w.heap.size, 1, none⟩ = some (.int .i64 0) := o.s.c1
        have p2 : w2.cell? ⟨w.heap.size, 2, none⟩ = some (.int .i64 0) := o.s.c2
        have g0 : w2.frozen? ⟨w.heap.size, 0, none⟩ = false := o.s.f 0
        have g1 : w2.frozen? ⟨w.heap.size, 1, none⟩ = false := o.s.f 1
        have g2 : w2.frozen? ⟨w.heap.size, 2, none⟩ = false := o.s.f 2
        have p3 : w2.cell? ⟨w.heap.size + 1, 0, none⟩ = some (.slice none 0 0) := o.e.c
        have g3 : w2.frozen? ⟨w.heap.size + 1, 0, none⟩ = false := o.e.f
        have p4 : w2.cell? ⟨w.heap.size + 1 + 1, 0, none⟩ = some (.int .i64 0) := o.n.c
        have g4 : w2.frozen? ⟨w.heap.size + 1 + 1, 0, none⟩ = false := o.n.f
        have p5 : w2.cell? ⟨w.heap.size + 1 + 1 + 1, 0, none⟩ = some (.int .i64 0) := o.er.c
        have g5 : w2.frozen? ⟨w.heap.size + 1 + 1 + 1, 0, none⟩ = false := o.er.f
        have p6 : w2.cell? ⟨w.heap.size + 1 + 1 + 1 + 1 + 1, 0, none⟩ = some (.int .i64 ((pre.length : Int) + 1)) := o.k.c
        clear o c7 f7 wn
        gi_region_with_o (fail)
        all_goals
          gi_wp2
          exact leave8 _ XK.out.1 XK.out.2.1 XK.out.2.2 HFO.out HL0.out
      | some st' =>
        gi_wp2_with (first | (refine ⟨trivial, ?_⟩; refine (CallsIn.inRound l (callsIn_wide.2 (hcut.out _))).mono ?_; rintro e w2 ⟨rfl, rfl⟩) | (refine ⟨trivial, ?_⟩; refine (CallsIn.inRound l (callsIn_wide.2 htk.out)).mono ?_; rintro e w2 ⟨rfl, hrd2, htf⟩; have HTF := Lib.hid (And.intro (hrd2 st' rfl) htf); clear htf hrd2))
        exact stay8 _ X1.out.1 X1.out.2.2.1 X1.out.2.2.2.1 X1.out.2.2.2.2 HFO.out HL0.out HTF.out.1 HTF.out.2
  case done =>
    rintro D xs W hD hxs ⟨⟨st, hfo, vt, ve, ks, ds, hrd⟩, hown, hbel⟩ hDf
    have hxs2 : ∀ x ∈ xs, x.size ≤ s.size := fun x hx => by
      have hm : L x ∈ linesOf (L s) := by rw [← hxs]; exact List.mem_map.2 ⟨x, hx, rfl⟩
      have := HLN.out.1 _ hm
      rwa [L_len] at this
    have hfin := fine_fold s.size xs rd0 st hxs2 hfo (fine0 _)
    have hTR := own_trow hrd.ot hrd.rt
    have hER := own_erow hrd.oe hrd.re
    have hlx : xs.length ≤ s.size := by
      have h4 := HLN.out.2
      rw [← hxs] at h4
      simpa using h4
    have hfl := fold_len xs rd0 st hfo
    have hfl' : st.tens.length + st.evs.length ≤ xs.length := by simpa [rd0] using hfl
    have hpx := Lib.hid (proxy71 st.tens st.cap st.sess vt W hTR (by omega) (fun t ht => by have := named_size _ (hfin.nm t ht); omega))
    obtain ⟨at1, ct, hvt⟩ := own_form hrd.ot
    subst hvt
    obtain ⟨ae, ce, hve⟩ := own_form hrd.oe
    subst hve
    have r0 : W.cell? ⟨w.heap.size + 1 + 1 + 1 + 1, 0, none⟩ = some _ := hrd.c0
    have r1 : W.cell? ⟨w.heap.size + 1 + 1 + 1 + 1, 1, none⟩ = some _ := hrd.c1
    have r2 : W.cell? ⟨w.heap.size + 1 + 1 + 1 + 1, 2, none⟩ = some _ := hrd.c2
    have HH := Lib.hid (And.intro hxs (And.intro hfo (And.intro hrd (And.intro hown (And.intro hbel (And.intro hTR hER))))))
    have HD := Lib.hid hDf
    clear hxs hfo hrd hown hbel hTR hER hDf hfl hfin hxs2
    simp only [setV] at hpx
    have HCS : Hid (checkS st.tens st.cap st.sess = checkS st.tens st.cap st.sess) := Lib.hid rfl
    generalize hER : checkS st.tens st.cap st.sess = ER at hpx HCS
    have HER := Lib.hid hER
    clear hER HCS
    by_cases her : ER = 0
    · subst her
      have t0 : (((0 : Nat) : Int) != 0) = false := by decide
      gi_wp2_with (refine ⟨trivial, ?_⟩; refine (callsIn_wide.2 hpx.out).mono ?_; rintro e w2 ⟨rfl, hb2⟩; have HB2 := Lib.hid hb2; clear hb2)
      have HR2 := Lib.hid (HH.out.2.2.1.below HB2.out)
      have o := HH.out.2.2.2.1.same (fun b hb => HB2.out.block b (HH.out.2.2.1.ex_lt b hb))
      have HO2 := Lib.hid o
      have p0 : w2.cell? ⟨w.heap.size, 0, none⟩ = some (.slice none 0 0) := o.s.c0
      have p1 : w2.cell? ⟨w.heap.size, 1, none⟩ = some (.int .i64 0) := o.s.c1
      have p2 : w2.cell? ⟨w.heap.size, 2, none⟩ = some (.int .i64 0) := o.s.c2
      have g0 : w2.frozen? ⟨w.heap.size, 0, none⟩ = false := o.s.f 0
      have g1 : w2.frozen? ⟨w.heap.size, 1, none⟩ = false := o.s.f 1
      have g2 : w2.frozen? ⟨w.heap.size, 2, none⟩ = false := o.s.f 2
      have p3 : w2.cell? ⟨w.heap.size + 1, 0, none⟩ = some (.slice none 0 0) := o.e.c
      have g3 : w2.frozen? ⟨w.heap.size + 1, 0, none⟩ = false := o.e.f
      have p4 : w2.cell? ⟨w.heap.size + 1 + 1, 0, none⟩ = some (.int .i64 0) := o.n.c
      have g4 : w2.frozen? ⟨w.heap.size + 1 + 1, 0, none⟩ = false := o.n.f
      have p5 : w2.cell? ⟨w.heap.size + 1 + 1 + 1, 0, none⟩ = some (.int .i64 0) := o.er.c
      have g5 : w2.frozen? ⟨w.heap.size + 1 + 1 + 1, 0, none⟩ = false := o.er.f
      have q0 : w2.cell? ⟨w.heap.size + 1 + 1 + 1 + 1, 0, none⟩ = some _ := HR2.out.c0
      have q1 : w2.cell? ⟨w.heap.size + 1 + 1 + 1 + 1, 1, none⟩ = some _ := HR2.out.c1
      have q2 : w2.cell? ⟨w.heap.size + 1 + 1 + 1 + 1, 2, none⟩ = some _ := HR2.out.c2
      have q3 : w2.cell? ⟨w.heap.size + 1 + 1 + 1 + 1, 3, none⟩ = some _ := HR2.out.c3
      clear o r0 r1 r2
      first
        | (gi_region_with_o (fail))
        | fail
      all_goals
        gi_wp2
        obtain ⟨h1, h2, h3⟩ := wr6_is (.slice at1 st.tens.length ct) (.int .i64 st.cap) (.int .i64 st.sess) (.slice ae st.evs.length ce) (.int .i64 0) (.int .i64 0) HO2.out (below_tr (HB2.out.mono (by have := HH.out.2.2.1.n0_le; omega)) HH.out.2.2.2.2.1)
        have hD2 := D_end (wr6_chg w2 w.heap.size (.slice at1 st.tens.length ct) (.int .i64 st.cap) (.int .i64 st.sess) (.slice ae st.evs.length ce) (.int .i64 0) (.int .i64 0)) HD.out HB2.out (by omega)
        have hR := rd_end HH.out.2.2.1 HB2.out (wr6_chg w2 w.heap.size (.slice at1 st.tens.length ct) (.int .i64 st.cap) (.int .i64 st.sess) (.slice ae st.evs.length ce) (.int .i64 0) (.int .i64 0)) hD2
        refine end45 (W := (wr6 w2 w.heap.size (.slice at1 st.tens.length ct) (.int .i64 st.cap) (.int .i64 st.sess) (.slice ae st.evs.length ce) (.int .i64 0) (.int .i64 0)).drew) rfl rfl rfl rfl (drew_own h2) (by omega) hD2 ?_
        exact ⟨below_D (by omega) h3.drew, .inr ⟨xs, st, _, _, HH.out.1, HH.out.2.1, HER.out, own_trow hR.ot hR.rt, own_erow hR.oe hR.re, rfl⟩⟩
    · have t0 : ((ER : Int) != 0) = true := by rw [bne_iff_ne]; omega
      gi_wp2_with (refine ⟨trivial, ?_⟩; refine (callsIn_wide.2 hpx.out).mono ?_; rintro e w2 ⟨rfl, hb2⟩; have HB2 := Lib.hid hb2; clear hb2)
      have o := HH.out.2.2.2.1.same (fun b hb => HB2.out.block b (HH.out.2.2.1.ex_lt b hb))
      have HO2 := Lib.hid o
      have p0 : w2.cell? ⟨w.heap.size, 0, none⟩ = some (.slice none 0 0) := o.s.c0
      have p1 : w2.cell? ⟨w.heap.size, 1, none⟩ = some (.int .i64 0) := o.s.c1
      have p2 : w2.cell? ⟨w.heap.size, 2, none⟩ = some (.int .i64 0) := o.s.c2
      have g0 : w2.frozen? ⟨w.heap.size, 0, none⟩ = false := o.s.f 0
      have g1 : w2.frozen? ⟨w.heap.size, 1, none⟩ = false := o.s.f 1
      have g2 : w2.frozen? ⟨w.heap.size, 2, none⟩ = false := o.s.f 2
      have p3 : w2.cell? ⟨w.heap.size + 1, 0, none⟩ = some (.slice none 0 0) := o.e.c
      have g3 : w2.frozen? ⟨w.heap.size + 1, 0, none⟩ = false := o.e.f
      have p4 : w2.cell? ⟨w.heap.size + 1 + 1, 0, none⟩ = some (.int .i64 0) := o.n.c
      have g4 : w2.frozen? ⟨w.heap.size + 1 + 1, 0, none⟩ = false := o.n.f
      have p5 : w2.cell? ⟨w.heap.size + 1 + 1 + 1, 0, none⟩ = some (.int .i64 0) := o.er.c
      have g5 : w2.frozen? ⟨w.heap.size + 1 + 1 + 1, 0, none⟩ = false := o.er.f
      have p6 : w2.cell? ⟨w.heap.size + 1 + 1 + 1 + 1 + 1, 0, none⟩ = some (.int .i64 (xs.length : Int)) := o.k.c
      clear o r0 r1 r2
      first
        | (gi_region_with_o (fail))
        | fail
      all_goals
        gi_wp2
        obtain ⟨h1, h2, h3⟩ := wr6_is (.slice none 0 0) (.int .i64 0) (.int .i64 0) (.slice none 0 0) (.int .i64 (xs.length : Int)) (.int .i64 2) HO2.out (below_tr (HB2.out.mono (by have := HH.out.2.2.1.n0_le; omega)) HH.out.2.2.2.2.1)
        refine end45 (W := (wr6 w2 w.heap.size (.slice none 0 0) (.int .i64 0) (.int .i64 0) (.slice none 0 0) (.int .i64 (xs.length : Int)) (.int .i64 2)).drew) rfl rfl rfl rfl (drew_own h2) (by omega) (D_end (wr6_chg _ _ _ _ _ _ _ _) HD.out HB2.out (by omega)) ?_
        refine ⟨below_D (by omega) h3.drew, .inl ⟨xs.length, .inr ⟨xs, st, HH.out.1, HH.out.2.1, by rw [HER.out]; exact her, rfl⟩, rfl⟩⟩
  case stop =>
    rintro D pre W hD hpre ⟨⟨p, x, st, rfl, hfo, hl0⟩, ⟨a6, hown⟩, hbel⟩ hDf
    gi_wp2_with fail
    refine end45 rfl rfl rfl rfl hown (by omega) hDf ?_
    refine ⟨below_D (by omega) hbel, .inl ⟨(p ++ [x]).length, .inl ⟨p, x, st, hpre, by simp, hfo, hl0⟩, rfl⟩⟩
/-- script.Read, of any text that is not too long. -/
theorem read45 (s : ByteArray) (w : World) (hs : s.size ≤ 100000) : Calls Tryz.prog 10 #[.string s] w (ReadPost s w) := (callsIn_wide (n := 3)).1 (read_in 3 (Nat.le_refl _) s w hs)
end Go.Proofs.YtinabbdecmjcpaaGreatDoor.Script
