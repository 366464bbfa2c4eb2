/- The contract of script.Read: the setup and the events of a text, or the line that errs. The contract of the law's awake: the chapter's example is answered. A list of events that came in: what is known of its memory, read off the row's premise. -/
import Derived.OpenShut
import Derived.ChangeOld
import Derived.SizedLaws
import Derived.Test.YtinabbdecmjcpaaG15
namespace Go.Proofs.Ytinabbdecmjcpaa.Script
open Go.RowKit Go.Shelf Go.Deep Go.Proofs.Ytinabbdecmjcpaa Go.Proofs.Ytinabbdecmjcpaa.Plain Go.Proofs.Ytinabbdecmjcpaa.Words Go.Proofs.Ytinabbdecmjcpaa.Named Go.Proofs.Ytinabbdecmjcpaa.Hex Go.Proofs.Ytinabbdecmjcpaa.Number Go.Proofs.Ytinabbdecmjcpaa.Queue Go.Proofs.Ytinabbdecmjcpaa.Line Go.Proofs.Ytinabbdecmjcpaa.Ev
attribute [local go_sem] Oper.semAt_some
set_option linter.unusedVariables false

/-- Read's answer is written. -/
def wr6 (W : World) (N : Nat) (a0 a1 a2 a3 a4 a5 : Value) : World := (((((W.setCell ⟨N, 0, none⟩ a0).setCell ⟨N, 1, none⟩ a1).setCell ⟨N, 2, none⟩ a2).setCell ⟨N + 1, 0, none⟩ a3).setCell ⟨N + 2, 0, none⟩ a4).setCell ⟨N + 3, 0, none⟩ a5
theorem wr6_is {w W : World} {N : Nat} {c0 c1 c2 c3 c4 c5 k : Value} (a0 a1 a2 a3 a4 a5 : Value) (o : Own5 W N c0 c1 c2 c3 c4 c5 k) (hb : Below N w W) : KeepsOthers W (wr6 W N a0 a1 a2 a3 a4 a5) ∧ Own5 (wr6 W N a0 a1 a2 a3 a4 a5) N a0 a1 a2 a3 a4 a5 k ∧ Below N w (wr6 W N a0 a1 a2 a3 a4 a5) := by
  have fz : ∀ p, (wr6 W N a0 a1 a2 a3 a4 a5).frozen? p = W.frozen? p := fun p => by simp only [wr6, World.frozen?_setCell]
  refine ⟨?_, ⟨⟨?_, ?_, ?_, fun i => (fz _).trans (o.s.f i)⟩, ⟨?_, (fz _).trans o.e.f⟩, ⟨?_, (fz _).trans o.n.f⟩, ⟨?_, (fz _).trans o.er.f⟩, ⟨?_, (fz _).trans o.k.f⟩⟩, ?_⟩
  · exact (((((KeepsOthers.setCell _ _ _).trans (KeepsOthers.setCell _ _ _)).trans (KeepsOthers.setCell _ _ _)).trans (KeepsOthers.setCell _ _ _)).trans (KeepsOthers.setCell _ _ _)).trans (KeepsOthers.setCell _ _ _)
  · refine (cset_b (by omega)).trans ((cset_b (by omega)).trans ((cset_b (by omega)).trans ((cset_o (by decide)).trans ((cset_o (by decide)).trans (cset_s o.s.c0)))))
  · refine (cset_b (by omega)).trans ((cset_b (by omega)).trans ((cset_b (by omega)).trans ((cset_o (by decide)).trans (cset_s ((cset_o (by decide)).trans o.s.c1)))))
  · refine (cset_b (by omega)).trans ((cset_b (by omega)).trans ((cset_b (by omega)).trans (cset_s ((cset_o (by decide)).trans ((cset_o (by decide)).trans o.s.c2)))))
  · refine (cset_b (by omega)).trans ((cset_b (by omega)).trans (cset_s ((cset_b (by omega)).trans ((cset_b (by omega)).trans ((cset_b (by omega)).trans o.e.c)))))
  · refine (cset_b (by omega)).trans (cset_s ((cset_b (by omega)).trans ((cset_b (by omega)).trans ((cset_b (by omega)).trans ((cset_b (by omega)).trans o.n.c)))))
  · refine cset_s ((cset_b (by omega)).trans ((cset_b (by omega)).trans ((cset_b (by omega)).trans ((cset_b (by omega)).trans ((cset_b (by omega)).trans o.er.c)))))
  · refine (cset_b (by omega)).trans ((cset_b (by omega)).trans ((cset_b (by omega)).trans ((cset_b (by omega)).trans ((cset_b (by omega)).trans ((cset_b (by omega)).trans o.k.c)))))
  · exact (((((hb.setCell (Nat.le_refl _) _).setCell (Nat.le_refl _) _).setCell (Nat.le_refl _) _).setCell (by show N ≤ N + 1; omega) _).setCell (by show N ≤ N + 2; omega) _).setCell (by show N ≤ N + 3; omega) _
theorem drew_own {W : World} {N : Nat} {c0 c1 c2 c3 c4 c5 k : Value} (o : Own5 W N c0 c1 c2 c3 c4 c5 k) : Own5 W.drew N c0 c1 c2 c3 c4 c5 k := o.same (fun _ _ => rfl)


theorem wr6_chg (W : World) (N : Nat) (a0 a1 a2 a3 a4 a5 : Value) : Chg [N, N + 1, N + 2, N + 3] W (wr6 W N a0 a1 a2 a3 a4 a5) :=
  ((((((Chg.refl _ W).setCell (p := ⟨N, 0, none⟩) (by simp) _).setCell (p := ⟨N, 1, none⟩) (by simp) _).setCell (p := ⟨N, 2, none⟩) (by simp) _).setCell (p := ⟨N + 1, 0, none⟩) (by simp) _).setCell (p := ⟨N + 2, 0, none⟩) (by simp) _).setCell (p := ⟨N + 3, 0, none⟩) (by simp) _
theorem res45 {W : World} {N n0 c0 n3 c3 : Nat} {tmps : Array Value} {x0 x3 : Option Addr} {i1 i2 i4 i5 : Int} {k : Value} (h2 : tmps[2]?.getD undef = .pointer (some ⟨N, 0, none⟩)) (h3 : tmps[3]?.getD undef = .pointer (some ⟨N + 1, 0, none⟩)) (h4 : tmps[4]?.getD undef = .pointer (some ⟨N + 2, 0, none⟩)) (h5 : tmps[5]?.getD undef = .pointer (some ⟨N + 3, 0, none⟩))
    (o : Own5 W N (.slice x0 n0 c0) (.int .i64 i1) (.int .i64 i2) (.slice x3 n3 c3) (.int .i64 i4) (.int .i64 i5) k) : (results Try.f45 tmps).run Try.prog W = .ok (.tuple #[.agg #[.slice x0 n0 c0, .int .i64 i1, .int .i64 i2], .slice x3 n3 c3, .int .i64 i4, .int .i64 i5]) W := by
  have p0 := o.s.c0
  have p1 := o.s.c1
  have p2 := o.s.c2
  have p3 := o.e.c
  have p4 := o.n.c
  have p5 := o.er.c
  clear o
  simp [results, Try.results45, go_sem, h2, h3, h4, h5, p0, p1, p2, p3, p4, p5]
theorem off_D {D N : Nat} {W : World} (h : W.heap[D]? = some (.deferred (some []))) (hD : N + 7 ≤ D) {c0 c1 c2 c3 c4 c5 k : Value} (o : Own5 W N c0 c1 c2 c3 c4 c5 k) : Own5 (W.putObj D (.deferred none)) N c0 c1 c2 c3 c4 c5 k :=
  o.same (fun b hb => World.putObj_heap_other (by simp [exs] at hb; omega))
theorem below_D {D n : Nat} {w W : World} (hn : n ≤ D) (hb : Below n w W) : Below n w (W.putObj D (.deferred none)) :=
  ⟨hb.os, hb.tape, hb.output, by simpa using hb.size, fun k hk => (World.putObj_heap_other (show k ≠ D by omega)).trans (hb.block k hk)⟩
theorem end45 {W w : World} {N D n0 c0 n3 c3 : Nat} {tmps : Array Value} {x0 x3 : Option Addr} {i1 i2 i4 i5 : Int} {k : Value} {n : Nat} {s : ByteArray} (h2 : tmps[2]?.getD undef = .pointer (some ⟨N, 0, none⟩)) (h3 : tmps[3]?.getD undef = .pointer (some ⟨N + 1, 0, none⟩)) (h4 : tmps[4]?.getD undef = .pointer (some ⟨N + 2, 0, none⟩)) (h5 : tmps[5]?.getD undef = .pointer (some ⟨N + 3, 0, none⟩))
    (o : Own5 W N (.slice x0 n0 c0) (.int .i64 i1) (.int .i64 i2) (.slice x3 n3 c3) (.int .i64 i4) (.int .i64 i5) k) (hD : N + 7 ≤ D) (h : W.heap[D]? = some (.deferred (some [])))
    (hp : ReadPost s w (.returned (.tuple #[setV (.slice x0 n0 c0) i1 i2, .slice x3 n3 c3, .int .i64 i4, .int .i64 i5])) (W.putObj D (.deferred none))) :
    bodyPostM Fence.wide n Try.prog Try.f45 (ReadPost s w) .ret { tmps := tmps, defers := [{ target := .collected D, args := #[] }] } W :=
  ⟨by simp, .inl ⟨_, _, rfl, run_takeDeferred h, _, res45 h2 h3 h4 h5 (off_D h hD o), hp⟩⟩
theorem rd_end {W w2 X : World} {N D : Nat} {st : Rd} {vt ve : Value} {ks ds : List Value} (h : RdIs W N (exs N) (N + 4) st vt ve ks ds) (hb : Below W.heap.size W w2) (hX : Chg [N, N + 1, N + 2, N + 3] w2 X) (hD : X.drew.heap[D]? = some (.deferred (some []))) : RdIs (X.drew.putObj D (.deferred none)) N (exs N) (N + 4) st vt ve ks ds := by
  have h1 := h.below hb
  have h2 := h1.ck ((CK.of_chg hX).mono (b := exs N) (fun x hx => by simp [exs] at hx ⊢; omega))
  have h3 : RdIs X.drew N (exs N) (N + 4) st vt ve ks ds := h2.ck ⟨Nat.le_refl _, fun _ _ _ _ _ => rfl⟩
  exact h3.ck ((CK.of_kept (Kept.putObj (B := N + 6) (N := 0) (.deferred none) hD rfl (Nat.zero_le _))).mono (fun x hx => by simp [exs] at hx ⊢; omega))
theorem D_end {W w2 X : World} {N D : Nat} (hX : Chg [N, N + 1, N + 2, N + 3] w2 X) (h : W.heap[D]? = some (.deferred (some []))) (hb : Below W.heap.size W w2) (hD : N + 7 ≤ D) : X.drew.heap[D]? = some (.deferred (some [])) := by
  have hl := (Array.getElem?_eq_some_iff.1 h).1
  have h1 := (hb.block D hl).trans h
  exact (hX.block D (Nat.lt_of_lt_of_le hl hb.size) (by simp; omega)).trans h1
theorem leave8 {w W W1 : World} {pre : List ByteArray} {x : ByteArray} {st : Rd} (a : Act) (hk : KeepsOthers W W1) (o : Own5 W1 w.heap.size (.slice none 0 0) (.int .i64 0) (.int .i64 0) (.slice none 0 0) (.int .i64 0) (.int .i64 0) (.int .i64 ((pre.length : Int) + 1))) (hb : Below w.heap.size w W1) (hf : foldO pre rd0 = some st) (hl : lineOf st x = none) :
    roundEnd (w.heap.size + 6) (RI w) (RX w) (pre ++ [x]) W .ret a (wr6 W1 w.heap.size (.slice none 0 0) (.int .i64 0) (.int .i64 0) (.slice none 0 0) (.int .i64 ((pre.length : Int) + 1)) (.int .i64 2)).drew := by
  obtain ⟨h1, h2, h3⟩ := wr6_is (.slice none 0 0) (.int .i64 0) (.int .i64 0) (.slice none 0 0) (.int .i64 ((pre.length : Int) + 1)) (.int .i64 2) o hb
  have e : ((pre ++ [x]).length : Int) = (pre.length : Int) + 1 := by simp
  refine ⟨(hk.trans h1).trans (KeepsOthers.drew _), ⟨pre, x, st, rfl, hf, hl⟩, ⟨.int .i64 ((pre.length : Int) + 1), ?_⟩, h3.drew⟩
  rw [e]
  exact drew_own h2
theorem stay8 {w W W1 W2 : World} {pre : List ByteArray} {x : ByteArray} {st st' : Rd} (a : Act) (hk : KeepsOthers W W1) (o : Own5 W1 w.heap.size (.slice none 0 0) (.int .i64 0) (.int .i64 0) (.slice none 0 0) (.int .i64 0) (.int .i64 0) (.int .i64 ((pre.length : Int) + 1))) (hb : Below w.heap.size w W1) (hB : W1.heap[w.heap.size + 6]? = W.heap[w.heap.size + 6]?) (hf : foldO pre rd0 = some st) (hl : lineOf st x = some st') (hr : RdAt W2 w.heap.size (exs w.heap.size) (w.heap.size + 4) st') (ht : TFr w.heap.size (exs w.heap.size) W1 W2) :
    roundEnd (w.heap.size + 6) (RI w) (RX w) (pre ++ [x]) W .normal a W2 := by
  have e : ((pre ++ [x]).length : Int) = (pre.length : Int) + 1 := by simp
  have hB2 : W2.heap[w.heap.size + 6]? = W.heap[w.heap.size + 6]? := (ht.xs _ (by simp [exs])).trans hB
  refine ⟨hk.trans ht.ko, World.cell?_of_block (w := W) (a := ⟨w.heap.size + 6, 0, none⟩) hB2, World.frozen?_of_block (w := W) (a := ⟨w.heap.size + 6, 0, none⟩) hB2, ⟨st', ?_, hr⟩, ?_, ?_⟩
  · rw [foldO_snoc, hf]; exact hl
  · rw [e]; exact o.same ht.xs
  · exact below_tr ht.be hb

set_option maxRecDepth 100000 in
set_option maxHeartbeats 8000000 in
theorem read_in (n : Nat) (hn : 3 ≤ n) (s : ByteArray) (w : World) (hs : s.size ≤ 100000) : CallsIn Fence.wide n Try.prog 45 #[.string s] w (ReadPost s w) := by
  have h1 : 1 ≤ n := by omega
  obtain ⟨hRI, hC1⟩ := start_is w s
  have hz := start_size w s
  refine callsIn_of_wp_marks Try.func45 rfl trivial ?_ rfl
  simp only [Try.ntmps45, List.size_toArray, List.length_cons, List.length_nil, Nat.reduceAdd, Nat.reduceSub, Array.replicate_succ, Array.replicate_zero, List.push_toArray, List.append_toArray, List.nil_append, List.cons_append]
  gi_wp2_with (refine ⟨trivial, ?_⟩; refine (callsIn_wide.2 (lines68 _ _)).mono ?_; rintro e w' ⟨rfl, rfl⟩)
  have h2 : 1 ≤ n - 1 - 1 := by omega
  have hmix : Try.prog.follows .mixedOrders = true := by kernel_rfl
  have hlen := lines_len (L s)
  rw [L_len] at hlen
  have HLN := Lib.hid hlen
  clear hlen
  refine range_lines (w := start w s) (w.heap.size + 6) s h1 ?hg (by omega) hC1.c hC1.f rfl (RI w) (RX w) (fun pre W W' h hk => h.kept (by omega) hk) (fun pre W W' h hk => h.kept (by omega) hk) hRI (fun x => { tmps := #[.string s, undef, .pointer (some ⟨w.heap.size, 0, none⟩), .pointer (some ⟨w.heap.size + 1, 0, none⟩), .pointer (some ⟨w.heap.size + 1 + 1, 0, none⟩), .pointer (some ⟨w.heap.size + 1 + 1 + 1, 0, none⟩), .pointer (some ⟨w.heap.size + 1 + 1 + 1 + 1, 0, none⟩), .pointer (some ⟨w.heap.size + 1 + 1 + 1 + 1 + 1, 0, none⟩), .string x, undef, undef, .string s, .func (.func 88) #[] #[.pointer (some ⟨w.heap.size + 1 + 1 + 1 + 1 + 1 + 1, 0, none⟩)], .string x, undef, undef, undef, undef, undef, undef, undef, undef, undef, undef, undef, undef, undef, undef, undef, undef, undef, undef, undef, undef, undef, undef, undef, undef, undef, undef], defers := [] }) ?assign ?body ?done ?stop
  case hg => first | rfl | simp
  case assign =>
    intro l x W K hK
    gi_wp2
    exact hK
  case body =>
    rintro l pre x W ⟨⟨st, hfo, vt, ve, ks, ds, hrd⟩, hown, hbel⟩ hpre
    have hxs : x.size ≤ s.size := by
      have hm : L x ∈ linesOf (L s) := hpre.subset (by simp)
      have := HLN.out.1 _ hm
      rwa [L_len] at this
    have hpl : pre.length + 1 ≤ s.size := by
      have h3 := hpre.length_le
      have h4 := HLN.out.2
      simp at h3
      omega
    have hfl := fold_len pre rd0 st hfo
    have hfl' : st.tens.length + st.evs.length ≤ pre.length := by simpa [rd0] using hfl
    have c7 : W.cell? ⟨w.heap.size + 1 + 1 + 1 + 1 + 1, 0, none⟩ = some (.int .i64 (pre.length : Int)) := hown.k.c
    have f7 : W.frozen? ⟨w.heap.size + 1 + 1 + 1 + 1 + 1, 0, none⟩ = false := hown.k.f
    have wn : IntKind.i64.wrap ((pre.length : Int) + 1) = (pre.length : Int) + 1 := IntWalk.i64_in _ (by omega)
    have hc1 : Chg [w.heap.size + 5] W (W.setCell ⟨w.heap.size + 1 + 1 + 1 + 1 + 1, 0, none⟩ (.int .i64 ((pre.length : Int) + 1))) := (Chg.refl _ _).setCell (p := ⟨w.heap.size + 1 + 1 + 1 + 1 + 1, 0, none⟩) (by simp) _
    have hk1 : KeepsOthers W (W.setCell ⟨w.heap.size + 1 + 1 + 1 + 1 + 1, 0, none⟩ (.int .i64 ((pre.length : Int) + 1))) := KeepsOthers.setCell _ _ _
    have hrd1 := hrd.ck ((CK.of_chg hc1).mono (by simp [exs]))
    have hown1 : Own5 (W.setCell ⟨w.heap.size + 1 + 1 + 1 + 1 + 1, 0, none⟩ (.int .i64 ((pre.length : Int) + 1))) w.heap.size (.slice none 0 0) (.int .i64 0) (.int .i64 0) (.slice none 0 0) (.int .i64 0) (.int .i64 0) (.int .i64 ((pre.length : Int) + 1)) := by
      have q : ∀ b, b ≠ w.heap.size + 5 → (W.setCell ⟨w.heap.size + 1 + 1 + 1 + 1 + 1, 0, none⟩ (.int .i64 ((pre.length : Int) + 1))).heap[b]? = W.heap[b]? := fun b hb => Below.heap_setCell _ _ _ _ hb
      exact ⟨hown.s.same (q _ (by omega)), hown.e.same (q _ (by omega)), hown.n.same (q _ (by omega)), hown.er.same (q _ (by omega)), ⟨World.cell?_setCell_same _ _ _ hown.k.c, by rw [World.frozen?_setCell]; exact hown.k.f⟩⟩
    have hbel1 : Below w.heap.size w (W.setCell ⟨w.heap.size + 1 + 1 + 1 + 1 + 1, 0, none⟩ (.int .i64 ((pre.length : Int) + 1))) := hbel.setCell (p := ⟨w.heap.size + 1 + 1 + 1 + 1 + 1, 0, none⟩) (by show w.heap.size ≤ w.heap.size + 5; omega) _
    have hB1 : (W.setCell ⟨w.heap.size + 1 + 1 + 1 + 1 + 1, 0, none⟩ (.int .i64 ((pre.length : Int) + 1))).heap[w.heap.size + 6]? = W.heap[w.heap.size + 6]? := Below.heap_setCell _ _ _ _ (by show w.heap.size + 6 ≠ w.heap.size + 5; omega)
    have hcut := Lib.hid (fun W => cut69 x W (by omega))
    have X1 := Lib.hid (And.intro hk1 (And.intro hrd1 (And.intro hown1 (And.intro hbel1 hB1))))
    have HFO := Lib.hid hfo
    have HLO : Hid (lineOf st x = if ends x = true then takeOf st (L (x.extract 0 (x.size - 1))) else none) := Lib.hid rfl
    clear hc1 hk1 hrd1 hown1 hbel1 hB1 hfo hrd hown hbel hpre hfl
    cases he : ends x with
    | false =>
      rw [he] at hcut
      have hlo : lineOf st x = none := by rw [HLO.out, he]; rfl
      have HL0 := Lib.hid hlo
      simp only [Bool.false_eq_true, if_false] at hcut
      clear hlo he
      gi_wp2_with (refine ⟨trivial, ?_⟩; refine (CallsIn.inRound l (callsIn_wide.2 (hcut.out _))).mono ?_; rintro e w2 ⟨rfl, rfl⟩)
      generalize W.setCell ⟨w.heap.size + 1 + 1 + 1 + 1 + 1, 0, none⟩ (.int .i64 ((pre.length : Int) + 1)) = W1 at *
      have o := X1.out.2.2.1
      have p0 : W1.cell? ⟨w.heap.size, 0, none⟩ = some (.slice none 0 0) := o.s.c0
      have p1 : W1.cell? ⟨w.heap.size, 1, none⟩ = some (.int .i64 0) := o.s.c1
      have p2 : W1.cell? ⟨w.heap.size, 2, none⟩ = some (.int .i64 0) := o.s.c2
      have g0 : W1.frozen? ⟨w.heap.size, 0, none⟩ = false := o.s.f 0
      have g1 : W1.frozen? ⟨w.heap.size, 1, none⟩ = false := o.s.f 1
      have g2 : W1.frozen? ⟨w.heap.size, 2, none⟩ = false := o.s.f 2
      have p3 : W1.cell? ⟨w.heap.size + 1, 0, none⟩ = some (.slice none 0 0) := o.e.c
      have g3 : W1.frozen? ⟨w.heap.size + 1, 0, none⟩ = false := o.e.f
      have p4 : W1.cell? ⟨w.heap.size + 1 + 1, 0, none⟩ = some (.int .i64 0) := o.n.c
      have g4 : W1.frozen? ⟨w.heap.size + 1 + 1, 0, none⟩ = false := o.n.f
      have p5 : W1.cell? ⟨w.heap.size + 1 + 1 + 1, 0, none⟩ = some (.int .i64 0) := o.er.c
      have g5 : W1.frozen? ⟨w.heap.size + 1 + 1 + 1, 0, none⟩ = false := o.er.f
      have p6 : W1.cell? ⟨w.heap.size + 1 + 1 + 1 + 1 + 1, 0, none⟩ = some (.int .i64 ((pre.length : Int) + 1)) := o.k.c
      clear o c7 f7 wn
      gi_wp2
      refine ⟨trivial, ?_⟩
      gi_wp2
      gi_region_with_o (fail)
      all_goals
        gi_wp2
        exact leave8 _ X1.out.1 X1.out.2.2.1 X1.out.2.2.2.1 HFO.out HL0.out
    | true =>
      rw [he] at hcut
      have hlo : lineOf st x = takeOf st (L (x.extract 0 (x.size - 1))) := by rw [HLO.out, he]; rfl
      have HL0 := Lib.hid hlo
      simp only [if_true] at hcut
      have htk := Lib.hid (take_any (x.extract 0 (x.size - 1)) (by rw [ByteArray.size_extract]; omega) (by omega) (by omega) X1.out.2.1)
      clear hlo he
      generalize x.extract 0 (x.size - 1) = y at *
      generalize takeOf st (L y) = O at *
      cases O with
      | none =>
        gi_wp2_with (first | (refine ⟨trivial, ?_⟩; refine (CallsIn.inRound l (callsIn_wide.2 (hcut.out _))).mono ?_; rintro e w2 ⟨rfl, rfl⟩) | (refine ⟨trivial, ?_⟩; refine (CallsIn.inRound l (callsIn_wide.2 htk.out)).mono ?_; rintro e w2 ⟨rfl, _, htf⟩; have HTF := Lib.hid htf; clear htf))
        have o := X1.out.2.2.1.same HTF.out.xs
        have XK := Lib.hid (And.intro (X1.out.1.trans HTF.out.ko) (And.intro o (below_tr HTF.out.be X1.out.2.2.2.1)))
        have p0 : w2.cell? ⟨w.heap.size, 0, none⟩ = some (.slice none 0 0) := o.s.c0
        have p1 : w2.cell? ⟨w.heap.size, 1, none⟩ = some (.int .i64 0) := o.s.c1
        have p2 : w2.cell? ⟨w.heap.size, 2, none⟩ = some (.int .i64 0) := o.s.c2
        have g0 : w2.frozen? ⟨w.heap.size, 0, none⟩ = false := o.s.f 0
        have g1 : w2.frozen? ⟨w.heap.size, 1, none⟩ = false := o.s.f 1
        have g2 : w2.frozen? ⟨w.heap.size, 2, none⟩ = false := o.s.f 2
        have p3 : w2.cell? ⟨w.heap.size + 1, 0, none⟩ = some (.slice none 0 0) := o.e.c
        have g3 : w2.frozen? ⟨w.heap.size + 1, 0, none⟩ = false := o.e.f
        have p4 : w2.cell? ⟨w.heap.size + 1 + 1, 0, none⟩ = some (.int .i64 0) := o.n.c
        have g4 : w2.frozen? ⟨w.heap.size + 1 + 1, 0, none⟩ = false := o.n.f
        have p5 : w2.cell? ⟨w.heap.size + 1 + 1 + 1, 0, none⟩ = some (.int .i64 0) := o.er.c
        have g5 : w2.frozen? ⟨w.heap.size + 1 + 1 + 1, 0, none⟩ = false := o.er.f
        have p6 : w2.cell? ⟨w.heap.size + 1 + 1 + 1 + 1 + 1, 0, none⟩ = some (.int .i64 ((pre.length : Int) + 1)) := o.k.c
        clear o c7 f7 wn
        gi_region_with_o (fail)
        all_goals
          gi_wp2
          exact leave8 _ XK.out.1 XK.out.2.1 XK.out.2.2 HFO.out HL0.out
      | some st' =>
        gi_wp2_with (first | (refine ⟨trivial, ?_⟩; refine (CallsIn.inRound l (callsIn_wide.2 (hcut.out _))).mono ?_; rintro e w2 ⟨rfl, rfl⟩) | (refine ⟨trivial, ?_⟩; refine (CallsIn.inRound l (callsIn_wide.2 htk.out)).mono ?_; rintro e w2 ⟨rfl, hrd2, htf⟩; have HTF := Lib.hid (And.intro (hrd2 st' rfl) htf); clear htf hrd2))
        exact stay8 _ X1.out.1 X1.out.2.2.1 X1.out.2.2.2.1 X1.out.2.2.2.2 HFO.out HL0.out HTF.out.1 HTF.out.2
  case done =>
    rintro D xs W hD hxs ⟨⟨st, hfo, vt, ve, ks, ds, hrd⟩, hown, hbel⟩ hDf
    have hxs2 : ∀ x ∈ xs, x.size ≤ s.size := fun x hx => by
      have hm : L x ∈ linesOf (L s) := by rw [← hxs]; exact List.mem_map.2 ⟨x, hx, rfl⟩
      have := HLN.out.1 _ hm
      rwa [L_len] at this
    have hfin := fine_fold s.size xs rd0 st hxs2 hfo (fine0 _)
    have hTR := own_trow hrd.ot hrd.rt
    have hER := own_erow hrd.oe hrd.re
    have hlx : xs.length ≤ s.size := by
      have h4 := HLN.out.2
      rw [← hxs] at h4
      simpa using h4
    have hfl := fold_len xs rd0 st hfo
    have hfl' : st.tens.length + st.evs.length ≤ xs.length := by simpa [rd0] using hfl
    have hpx := Lib.hid (proxy71 st.tens st.cap st.sess vt W hTR (by omega) (fun t ht => by have := named_size _ (hfin.nm t ht); omega))
    obtain ⟨at1, ct, hvt⟩ := own_form hrd.ot
    subst hvt
    obtain ⟨ae, ce, hve⟩ := own_form hrd.oe
    subst hve
    have r0 : W.cell? ⟨w.heap.size + 1 + 1 + 1 + 1, 0, none⟩ = some _ := hrd.c0
    have r1 : W.cell? ⟨w.heap.size + 1 + 1 + 1 + 1, 1, none⟩ = some _ := hrd.c1
    have r2 : W.cell? ⟨w.heap.size + 1 + 1 + 1 + 1, 2, none⟩ = some _ := hrd.c2
    have HH := Lib.hid (And.intro hxs (And.intro hfo (And.intro hrd (And.intro hown (And.intro hbel (And.intro hTR hER))))))
    have HD := Lib.hid hDf
    clear hxs hfo hrd hown hbel hTR hER hDf hfl hfin hxs2
    simp only [setV] at hpx
    have HCS : Hid (checkS st.tens st.cap st.sess = checkS st.tens st.cap st.sess) := Lib.hid rfl
    generalize hER : checkS st.tens st.cap st.sess = ER at hpx HCS
    have HER := Lib.hid hER
    clear hER HCS
    by_cases her : ER = 0
    · subst her
      have t0 : (((0 : Nat) : Int) != 0) = false := by decide
      gi_wp2_with (refine ⟨trivial, ?_⟩; refine (callsIn_wide.2 hpx.out).mono ?_; rintro e w2 ⟨rfl, hb2⟩; have HB2 := Lib.hid hb2; clear hb2)
      have HR2 := Lib.hid (HH.out.2.2.1.below HB2.out)
      have o := HH.out.2.2.2.1.same (fun b hb => HB2.out.block b (HH.out.2.2.1.ex_lt b hb))
      have HO2 := Lib.hid o
      have p0 : w2.cell? ⟨w.heap.size, 0, none⟩ = some (.slice none 0 0) := o.s.c0
      have p1 : w2.cell? ⟨w.heap.size, 1, none⟩ = some (.int .i64 0) := o.s.c1
      have p2 : w2.cell? ⟨w.heap.size, 2, none⟩ = some (.int .i64 0) := o.s.c2
      have g0 : w2.frozen? ⟨w.heap.size, 0, none⟩ = false := o.s.f 0
      have g1 : w2.frozen? ⟨w.heap.size, 1, none⟩ = false := o.s.f 1
      have g2 : w2.frozen? ⟨w.heap.size, 2, none⟩ = false := o.s.f 2
      have p3 : w2.cell? ⟨w.heap.size + 1, 0, none⟩ = some (.slice none 0 0) := o.e.c
      have g3 : w2.frozen? ⟨w.heap.size + 1, 0, none⟩ = false := o.e.f
      have p4 : w2.cell? ⟨w.heap.size + 1 + 1, 0, none⟩ = some (.int .i64 0) := o.n.c
      have g4 : w2.frozen? ⟨w.heap.size + 1 + 1, 0, none⟩ = false := o.n.f
      have p5 : w2.cell? ⟨w.heap.size + 1 + 1 + 1, 0, none⟩ = some (.int .i64 0) := o.er.c
      have g5 : w2.frozen? ⟨w.heap.size + 1 + 1 + 1, 0, none⟩ = false := o.er.f
      have q0 : w2.cell? ⟨w.heap.size + 1 + 1 + 1 + 1, 0, none⟩ = some _ := HR2.out.c0
      have q1 : w2.cell? ⟨w.heap.size + 1 + 1 + 1 + 1, 1, none⟩ = some _ := HR2.out.c1
      have q2 : w2.cell? ⟨w.heap.size + 1 + 1 + 1 + 1, 2, none⟩ = some _ := HR2.out.c2
      have q3 : w2.cell? ⟨w.heap.size + 1 + 1 + 1 + 1, 3, none⟩ = some _ := HR2.out.c3
      clear o r0 r1 r2
      first
        | (gi_region_with_o (fail))
        | fail
      all_goals
        gi_wp2
        obtain ⟨h1, h2, h3⟩ := wr6_is (.slice at1 st.tens.length ct) (.int .i64 st.cap) (.int .i64 st.sess) (.slice ae st.evs.length ce) (.int .i64 0) (.int .i64 0) HO2.out (below_tr (HB2.out.mono (by have := HH.out.2.2.1.n0_le; omega)) HH.out.2.2.2.2.1)
        have hD2 := D_end (wr6_chg w2 w.heap.size (.slice at1 st.tens.length ct) (.int .i64 st.cap) (.int .i64 st.sess) (.slice ae st.evs.length ce) (.int .i64 0) (.int .i64 0)) HD.out HB2.out (by omega)
        have hR := rd_end HH.out.2.2.1 HB2.out (wr6_chg w2 w.heap.size (.slice at1 st.tens.length ct) (.int .i64 st.cap) (.int .i64 st.sess) (.slice ae st.evs.length ce) (.int .i64 0) (.int .i64 0)) hD2
        refine end45 (W := (wr6 w2 w.heap.size (.slice at1 st.tens.length ct) (.int .i64 st.cap) (.int .i64 st.sess) (.slice ae st.evs.length ce) (.int .i64 0) (.int .i64 0)).drew) rfl rfl rfl rfl (drew_own h2) (by omega) hD2 ?_
        exact ⟨below_D (by omega) h3.drew, .inr ⟨xs, st, _, _, HH.out.1, HH.out.2.1, HER.out, own_trow hR.ot hR.rt, own_erow hR.oe hR.re, rfl⟩⟩
    · have t0 : ((ER : Int) != 0) = true := by rw [bne_iff_ne]; omega
      gi_wp2_with (refine ⟨trivial, ?_⟩; refine (callsIn_wide.2 hpx.out).mono ?_; rintro e w2 ⟨rfl, hb2⟩; have HB2 := Lib.hid hb2; clear hb2)
      have o := HH.out.2.2.2.1.same (fun b hb => HB2.out.block b (HH.out.2.2.1.ex_lt b hb))
      have HO2 := Lib.hid o
      have p0 : w2.cell? ⟨w.heap.size, 0, none⟩ = some (.slice none 0 0) := o.s.c0
      have p1 : w2.cell? ⟨w.heap.size, 1, none⟩ = some (.int .i64 0) := o.s.c1
      have p2 : w2.cell? ⟨w.heap.size, 2, none⟩ = some (.int .i64 0) := o.s.c2
      have g0 : w2.frozen? ⟨w.heap.size, 0, none⟩ = false := o.s.f 0
      have g1 : w2.frozen? ⟨w.heap.size, 1, none⟩ = false := o.s.f 1
      have g2 : w2.frozen? ⟨w.heap.size, 2, none⟩ = false := o.s.f 2
      have p3 : w2.cell? ⟨w.heap.size + 1, 0, none⟩ = some (.slice none 0 0) := o.e.c
      have g3 : w2.frozen? ⟨w.heap.size + 1, 0, none⟩ = false := o.e.f
      have p4 : w2.cell? ⟨w.heap.size + 1 + 1, 0, none⟩ = some (.int .i64 0) := o.n.c
      have g4 : w2.frozen? ⟨w.heap.size + 1 + 1, 0, none⟩ = false := o.n.f
      have p5 : w2.cell? ⟨w.heap.size + 1 + 1 + 1, 0, none⟩ = some (.int .i64 0) := o.er.c
      have g5 : w2.frozen? ⟨w.heap.size + 1 + 1 + 1, 0, none⟩ = false := o.er.f
      have p6 : w2.cell? ⟨w.heap.size + 1 + 1 + 1 + 1 + 1, 0, none⟩ = some (.int .i64 (xs.length : Int)) := o.k.c
      clear o r0 r1 r2
      first
        | (gi_region_with_o (fail))
        | fail
      all_goals
        gi_wp2
        obtain ⟨h1, h2, h3⟩ := wr6_is (.slice none 0 0) (.int .i64 0) (.int .i64 0) (.slice none 0 0) (.int .i64 (xs.length : Int)) (.int .i64 2) HO2.out (below_tr (HB2.out.mono (by have := HH.out.2.2.1.n0_le; omega)) HH.out.2.2.2.2.1)
        refine end45 (W := (wr6 w2 w.heap.size (.slice none 0 0) (.int .i64 0) (.int .i64 0) (.slice none 0 0) (.int .i64 (xs.length : Int)) (.int .i64 2)).drew) rfl rfl rfl rfl (drew_own h2) (by omega) (D_end (wr6_chg _ _ _ _ _ _ _ _) HD.out HB2.out (by omega)) ?_
        refine ⟨below_D (by omega) h3.drew, .inl ⟨xs.length, .inr ⟨xs, st, HH.out.1, HH.out.2.1, by rw [HER.out]; exact her, rfl⟩, rfl⟩⟩
  case stop =>
    rintro D pre W hD hpre ⟨⟨p, x, st, rfl, hfo, hl0⟩, ⟨a6, hown⟩, hbel⟩ hDf
    gi_wp2_with fail
    refine end45 rfl rfl rfl rfl hown (by omega) hDf ?_
    refine ⟨below_D (by omega) hbel, .inl ⟨(p ++ [x]).length, .inl ⟨p, x, st, hpre, by simp, hfo, hl0⟩, rfl⟩⟩
/-- script.Read, of any text that is not too long. -/
theorem read45 (s : ByteArray) (w : World) (hs : s.size ≤ 100000) : Calls Try.prog 45 #[.string s] w (ReadPost s w) := (callsIn_wide (n := 3)).1 (read_in 3 (Nat.le_refl _) s w hs)
end Go.Proofs.Ytinabbdecmjcpaa.Script

namespace Go.Proofs.Ytinabbdecmjcpaa.Script
open Go.RowKit Go.Deep Go.Proofs.Ytinabbdecmjcpaa Go.Proofs.Ytinabbdecmjcpaa.Plain Go.Proofs.Ytinabbdecmjcpaa.Words Go.Proofs.Ytinabbdecmjcpaa.Named Go.Proofs.Ytinabbdecmjcpaa.Hex Go.Proofs.Ytinabbdecmjcpaa.Number Go.Proofs.Ytinabbdecmjcpaa.Queue Go.Proofs.Ytinabbdecmjcpaa.Line Go.Proofs.Ytinabbdecmjcpaa.Ev
set_option linter.unusedVariables false

def exT : List UInt8 := [116, 101, 110, 97, 110, 116, 32, 97, 32, 54, 98, 10, 99, 97, 112, 97, 99, 105, 116, 121, 32, 49, 48, 48, 10, 35, 32, 120, 10, 115, 101, 115, 115, 105, 111, 110, 115, 32, 49, 10, 98, 111, 111, 116, 32, 48, 10]
def exB : List UInt8 := [98, 111, 111, 116, 32, 48]
def exX : List ByteArray := [lnS (tenL ⟨S [97], [107]⟩), lnS (capL 100), lnS [35, 32, 120], lnS (sesL 1), lnS exB]
def exR : Rd := ⟨[⟨S [97], [107]⟩], 100, 1, [(parseOf exB).1]⟩
theorem ex_lines : exX.map L = linesOf exT := by decide +kernel
theorem ex_fold : foldO exX rd0 = some exR := by
  have hp : parseOf exB = ((parseOf exB).1, 0) := Prod.ext rfl (by decide +kernel)
  unfold exX
  simp only [foldO, lineOf_lnS]
  rw [take_tenL rd0 ⟨S [97], [107]⟩ (by decide +kernel) rfl]
  simp only
  rw [take_capL _ 100 (by decide) rfl]
  simp only
  rw [take_blank _ [35, 32, 120] (.inr rfl)]
  simp only
  rw [take_sesL _ 1 (by decide) rfl]
  simp only
  rw [take_evL _ _ exB hp]
  rfl
theorem ex_check : checkS exR.tens exR.cap exR.sess = 0 := by decide +kernel
theorem ex_read (w : World) (e : Ending) (w' : World) (h : ReadPost (S exT) w e w') : Below w.heap.size w w' ∧ ∃ a1 c1 a2 c2, e = .returned (.tuple #[setV (.slice a1 1 c1) 100 1, .slice a2 1 c2, .int .i64 0, .int .i64 0]) := by
  obtain ⟨hb, h⟩ := h
  refine ⟨hb, ?_⟩
  rcases h with ⟨k, hk, _⟩ | ⟨xs, st, vt, ve, hx, hf, hc, ht, he, rfl⟩
  · exact absurd hk (no_err exT exX exR k ex_lines ex_fold ex_check)
  · rw [show L (S exT) = exT from rfl, ← ex_lines] at hx
    rw [mapL_inj _ _ hx, ex_fold] at hf
    cases hf
    obtain ⟨a1, c1, rfl⟩ := trow_form ht
    obtain ⟨a2, c2, rfl⟩ := erow_form he
    exact ⟨a1, c1, a2, c2, rfl⟩
set_option maxRecDepth 100000 in
set_option maxHeartbeats 4000000 in
theorem awake43 (w : World) : Calls Try.prog 43 #[] w fun e w' => e = .returned (.bool true) ∧ Below w.heap.size w w' := by
  have hr := Lib.hid (fun W => read45 (S exT) W (by decide))
  go_enter Try.func43, Try.ntmps43
  go_wp2_with fail
  refine (hr.out _).mono ?_
  intro e w2 hp
  obtain ⟨hb, a1, c1, a2, c2, rfl⟩ := ex_read _ _ _ hp
  have HB := Lib.hid hb
  clear hp hb
  go_wp2
  go_ret
  exact ⟨rfl, HB.out.alloc HB.out.size _⟩
end Go.Proofs.Ytinabbdecmjcpaa.Script

namespace Go.Proofs.Ytinabbdecmjcpaa.Script
open Go.RowKit Go.Proofs.Ytinabbdecmjcpaa Go.Proofs.Ytinabbdecmjcpaa.Plain Go.Proofs.Ytinabbdecmjcpaa.Words Go.Proofs.Ytinabbdecmjcpaa.Named Go.Proofs.Ytinabbdecmjcpaa.Hex Go.Proofs.Ytinabbdecmjcpaa.Number Go.Proofs.Ytinabbdecmjcpaa.Queue Go.Proofs.Ytinabbdecmjcpaa.Line Go.Proofs.Ytinabbdecmjcpaa.Ev
open Go.ChangeShapes Go.WideShapes Go.ChangeAt Go.Deep
set_option linter.unusedVariables false

/-- What is known of the numbers and lengths of an event that came in. -/
structure EvBnd (e : Ev) : Prop where
  kind : -9223372036854775808 ≤ e.kind ∧ e.kind ≤ 9223372036854775807
  session : -9223372036854775808 ≤ e.session ∧ e.session ≤ 9223372036854775807
  stream : -9223372036854775808 ≤ e.stream ∧ e.stream ≤ 9223372036854775807
  m : -9223372036854775808 ≤ e.m ∧ e.m ≤ 9223372036854775807
  n : e.n < 18446744073709551616
  bits : e.bits < 18446744073709551616
  tenant : e.tenant.size ≤ reachBytes
  data : e.data.length ≤ reachBytes
theorem EvBnd.fits {e : Ev} (h : EvBnd e) : Fits e := ⟨h.session.2, h.stream.2, h.m.2, h.n, h.bits⟩
theorem list8 {α : Type} {l : List α} (h : l.length = 8) : ∃ a b c d e f g i, l = [a, b, c, d, e, f, g, i] := by
  match l, h with
  | [a, b, c, d, e, f, g, i], _ => exact ⟨a, b, c, d, e, f, g, i, rfl⟩
theorem mem_weightsAll {H : Type} {P : Program} {e : TypeId} : ∀ {l : List (DataW H)} {x : DataW H}, x ∈ l → ∀ n ∈ x.weights P e, n ∈ DataW.weightsAll P e l
  | [], x, h, _, _ => by cases h
  | d :: l, x, h, n, hn => by
    simp only [DataW.weightsAll, List.mem_append]
    rcases List.mem_cons.1 h with rfl | h
    · exact .inl hn
    · exact .inr (mem_weightsAll h n hn)
theorem weights_elem {H : Type} {P : Program} {t e : TypeId} {elems spare : List (DataW H)} (hu : P.underlying t = some (.slice e)) {x : DataW H} (hx : x ∈ elems) (n : Nat) (hn : n ∈ x.weights P e) : n ∈ (DataW.slice elems spare).weights P t := by
  simp only [DataW.weights, hu, List.mem_cons, List.mem_append]
  exact .inr (.inl (mem_weightsAll hx n hn))
theorem weights_len {H : Type} {P : Program} {t e : TypeId} {elems spare : List (DataW H)} (hu : P.underlying t = some (.slice e)) : (elems.length + spare.length) * P.bytesOf e ∈ (DataW.slice elems spare).weights P t := by
  simp [DataW.weights, hu]
section
variable {H : Type} {enc : TypeId × Value → H} {W : World} {base : Nat} {spare : Nat → Bool} {held : Bool}
theorem open_bytes_len {fuel : Nat} {v : Value} {x : DataW H × List MemPlace} (h : DataW.trod enc Try.prog W base spare held fuel 22 [v] = some x) (hw : ∀ n ∈ x.1.weights Try.prog 22, n ≤ reachBytes) {l : List UInt8} (hr : CRow W v l) : l.length ≤ reachBytes := by
  obtain ⟨a0, c0, rfl⟩ := crow_form hr
  rcases open_ints Try.underlying22 Try.underlying5 (by kernel_rfl) h with ⟨hcs, _⟩ | ⟨a, len, cap, zs, hcs, _, hl, hm, hz, hx, hcell, hwf⟩
  · simp at hcs
    rw [hcs.2.1]
    exact Nat.zero_le _
  · simp at hcs
    obtain ⟨rfl, rfl, rfl⟩ := hcs
    have h1 := hw _ (by rw [hx]; exact weights_len Try.underlying22)
    rw [show Try.prog.bytesOf 5 = 1 by kernel_rfl, Nat.mul_one] at h1
    have hlz : l.length ≤ zs.length := by
      have : l.length ≤ (if spare a.block then c0 else l.length) := by split <;> omega
      rw [hz]; exact this
    simp [lits] at h1
    omega
theorem open_events {E : TypeId} {f0 f1 f2 f3 f4 f5 f6 f7 : Field} (hT : Try.prog.underlying 65 = some (.slice E)) (hE : Try.prog.underlying E = some (.struct #[f0, f1, f2, f3, f4, f5, f6, f7])) (hC : Try.prog.cellsOf E = 8) (hY : Try.prog.bytesOf E = 88)
    (t0 : f0.type = 3) (t1 : f1.type = 3) (t2 : f2.type = 3) (t3 : f3.type = 9) (t4 : f4.type = 42) (t5 : f5.type = 3) (t6 : f6.type = 42) (t7 : f7.type = 22)
    (o0 : f0.offset = 0) (o1 : f1.offset = 1) (o2 : f2.offset = 2) (o3 : f3.offset = 3) (o4 : f4.offset = 4) (o5 : f5.offset = 5) (o6 : f6.offset = 6) (o7 : f7.offset = 7)
    {v : Value} {d : DataW H} {p : List MemPlace} (hv : ∃ a len cap, v = .slice a len cap) (h : DataW.Trod enc Try.prog W base spare held 65 v d p) (hw : ∀ n ∈ d.weights Try.prog 65, n ≤ reachBytes) : ∃ es : List Ev, ERow W v es ∧ es.length ≤ reachBytes ∧ ∀ e ∈ es, EvBnd e := by
  obtain ⟨a0, len0, cap0, rfl⟩ := hv
  obtain ⟨fuel, hf⟩ := h
  rcases open_slice hT hf with ⟨hcs, _⟩ | ⟨a, len, cap, m, n, D, Pl, hcs, _, hl, hm, hmm, hxx, hel⟩
  · simp [Value.cells] at hcs
    obtain ⟨rfl, rfl, rfl⟩ := hcs
    exact ⟨[], .inl ⟨rfl, _, _, rfl⟩, Nat.zero_le _, (fun e he => by cases he)⟩
  · simp [Value.cells] at hcs
    obtain ⟨rfl, rfl, rfl⟩ := hcs
    have hlm : len0 ≤ m := by rw [hmm]; split <;> omega
    have hd : d = .slice ((List.range len0).map D) ((List.range (m - len0)).map fun j => D (len0 + j)) := congrArg Prod.fst hxx
    have hlr : len0 ≤ reachBytes := by
      have h1 := hw _ (by rw [hd]; exact weights_len hT)
      rw [hY] at h1
      simp at h1
      omega
    by_cases h0 : len0 = 0
    · subst h0
      exact ⟨[], .inl ⟨rfl, _, _, rfl⟩, Nat.zero_le _, (fun e he => by cases he)⟩
    obtain ⟨g, o, spot⟩ := a
    have key : ∀ i, i < len0 → ∃ (e : Ev) (dv : Value), EvBnd e ∧ CRow W dv e.data ∧ (W.cell? ((⟨g, o, spot⟩ : Addr).add (i * 8)) = some (.int .i64 e.kind)) ∧ (W.cell? (((⟨g, o, spot⟩ : Addr).add (i * 8)).add 1) = some (.int .i64 e.session)) ∧ (W.cell? (((⟨g, o, spot⟩ : Addr).add (i * 8)).add 2) = some (.int .i64 e.stream)) ∧ (W.cell? (((⟨g, o, spot⟩ : Addr).add (i * 8)).add 3) = some (.string e.tenant)) ∧ (W.cell? (((⟨g, o, spot⟩ : Addr).add (i * 8)).add 4) = some (.int .u64 (e.n : Int))) ∧ (W.cell? (((⟨g, o, spot⟩ : Addr).add (i * 8)).add 5) = some (.int .i64 e.m)) ∧ (W.cell? (((⟨g, o, spot⟩ : Addr).add (i * 8)).add 6) = some (.int .u64 (e.bits : Int))) ∧ (W.cell? (((⟨g, o, spot⟩ : Addr).add (i * 8)).add 7) = some dv) := by
      intro i hi
      obtain ⟨cs', hc, ht'⟩ := hel i (by omega)
      rw [hC] at hc
      obtain ⟨xs, n', _, hxa, hlen, hxl, hf'⟩ := DataW.trod_struct hE ht'
      have hDw : ∀ n ∈ (D i).weights Try.prog E, n ≤ reachBytes := fun n hn => hw n (by rw [hd]; exact weights_elem hT (List.mem_map.2 ⟨i, by simpa using hi, rfl⟩) n hn)
      have hDi : D i = .agg (xs.map (·.1)) := congrArg Prod.fst hxa
      obtain ⟨_, hcl, hat⟩ := World.cells?_some hc
      have g0 := hf' 0 f0 rfl
      have g1 := hf' 1 f1 rfl
      have g2 := hf' 2 f2 rfl
      have g3 := hf' 3 f3 rfl
      have g4 := hf' 4 f4 rfl
      have g5 := hf' 5 f5 rfl
      have g6 := hf' 6 f6 rfl
      have g7 := hf' 7 f7 rfl
      rw [t0, o0, show Try.prog.cellsOf 3 = 1 by kernel_rfl] at g0
      rw [t1, o1, show Try.prog.cellsOf 3 = 1 by kernel_rfl] at g1
      rw [t2, o2, show Try.prog.cellsOf 3 = 1 by kernel_rfl] at g2
      rw [t3, o3, show Try.prog.cellsOf 9 = 1 by kernel_rfl] at g3
      rw [t4, o4, show Try.prog.cellsOf 42 = 1 by kernel_rfl] at g4
      rw [t5, o5, show Try.prog.cellsOf 3 = 1 by kernel_rfl] at g5
      rw [t6, o6, show Try.prog.cellsOf 42 = 1 by kernel_rfl] at g6
      rw [t7, o7, show Try.prog.cellsOf 22 = 1 by kernel_rfl] at g7
      obtain ⟨c0, c1, c2, c3, c4, c5, c6, c7, rfl⟩ := list8 hcl
      obtain ⟨x0, x1, x2, x3, x4, x5, x6, x7, rfl⟩ := list8 hxl
      obtain ⟨k0, e0, _, w0⟩ := DataW.trod_int Try.underlying3 (show DataW.trod enc Try.prog W base spare held n' 3 [c0] = some x0 from g0)
      obtain ⟨k1, e1, _, w1⟩ := DataW.trod_int Try.underlying3 (show DataW.trod enc Try.prog W base spare held n' 3 [c1] = some x1 from g1)
      obtain ⟨k2, e2, _, w2⟩ := DataW.trod_int Try.underlying3 (show DataW.trod enc Try.prog W base spare held n' 3 [c2] = some x2 from g2)
      obtain ⟨k3, e3, hx3, w3⟩ := DataW.trod_string Try.underlying9 (show DataW.trod enc Try.prog W base spare held n' 9 [c3] = some x3 from g3)
      obtain ⟨k4, e4, _, w4⟩ := DataW.trod_int Try.underlying42 (show DataW.trod enc Try.prog W base spare held n' 42 [c4] = some x4 from g4)
      obtain ⟨k5, e5, _, w5⟩ := DataW.trod_int Try.underlying3 (show DataW.trod enc Try.prog W base spare held n' 3 [c5] = some x5 from g5)
      obtain ⟨k6, e6, _, w6⟩ := DataW.trod_int Try.underlying42 (show DataW.trod enc Try.prog W base spare held n' 42 [c6] = some x6 from g6)
      obtain ⟨l, hrow, _⟩ := open_bytes (show DataW.trod enc Try.prog W base spare held n' 22 [c7] = some x7 from g7)
      have hag : ∀ n ∈ DataW.weightsEach Try.prog [f0.type, f1.type, f2.type, f3.type, f4.type, f5.type, f6.type, f7.type] [x0.1, x1.1, x2.1, x3.1, x4.1, x5.1, x6.1, x7.1], n ≤ reachBytes := fun n hn => hDw n (by rw [hDi]; simp only [DataW.weights, hE]; exact hn)
      have hl3 : k3.size ≤ reachBytes := hag _ (DataW.weights_mem_each (j := 3) (t := f3.type) (d := x3.1) rfl rfl _ (by rw [hx3]; simp [DataW.weights]))
      have hlen' : l.length ≤ reachBytes := open_bytes_len (show DataW.trod enc Try.prog W base spare held n' 22 [c7] = some x7 from g7) (fun n hn => hag n (DataW.weights_mem_each (j := 7) (t := f7.type) (d := x7.1) rfl rfl n (by rw [t7]; exact hn))) hrow
      simp at e0 e1 e2 e3 e4 e5 e6
      subst e0 e1 e2 e3 e4 e5 e6
      obtain ⟨q0, q1⟩ := bounds_u64 w4
      obtain ⟨q2, q3⟩ := bounds_u64 w6
      refine ⟨⟨k0, k1, k2, k3, k4.toNat, k5, k6.toNat, l⟩, c7, ⟨bounds_i64 w0, bounds_i64 w1, bounds_i64 w2, bounds_i64 w5, by show k4.toNat < _; omega, by show k6.toNat < _; omega, hl3, hlen'⟩, hrow, by simpa [Addr.add] using hat 0 (by omega), hat 1 (by omega), hat 2 (by omega), hat 3 (by omega), ?_, hat 5 (by omega), ?_, hat 7 (by omega)⟩
      · have := hat 4 (by omega)
        rw [this]
        show some (Value.int .u64 k4) = some (.int .u64 (k4.toNat : Int))
        rw [Int.toNat_of_nonneg q0]
      · have := hat 6 (by omega)
        rw [this]
        show some (Value.int .u64 k6) = some (.int .u64 (k6.toNat : Int))
        rw [Int.toNat_of_nonneg q2]
    obtain ⟨_, _, _, _, a0, _⟩ := key 0 (by omega)
    have hspot : spot = none := by simpa [Addr.add] using World.cell?_spot a0
    subst hspot
    have key2 : ∀ i : Fin len0, ∃ e : Ev, EvBnd e ∧ EvIn W g o i.val e := fun i => by
      obtain ⟨e, dv, hb, hr, b0, b1, b2, b3, b4, b5, b6, b7⟩ := key i.val i.isLt
      rw [addr_add] at b0 b1 b2 b3 b4 b5 b6 b7
      rw [addr_add] at b1 b2 b3 b4 b5 b6 b7
      exact ⟨e, hb, dv, b0, b1, b2, b3, b4, b5, b6, b7, hr⟩
    refine ⟨List.ofFn fun i => Classical.choose (key2 i), .inr ⟨g, o, cap0, by simp, fun i e he => ?_⟩, by simp; omega, fun e he => ?_⟩
    · obtain ⟨hi, he⟩ := List.getElem?_eq_some_iff.1 he
      have hi' : i < len0 := by simpa using hi
      rw [List.getElem_ofFn] at he
      rw [← he]
      exact (Classical.choose_spec (key2 ⟨i, hi'⟩)).2
    · obtain ⟨i, rfl⟩ := List.mem_ofFn.1 he
      exact (Classical.choose_spec (key2 i)).1
end
end Go.Proofs.Ytinabbdecmjcpaa.Script
