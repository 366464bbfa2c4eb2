/- The contract of the reference's Do of layer 25, all steps. -/
import Derived.Test.YtinabbdecmjcpaaRefDo
namespace Go.Proofs.Ytinabbdecmjcpaa.Queue
open Go.RowKit Go.Proofs.Ytinabbdecmjcpaa Go.Proofs.Ytinabbdecmjcpaa.Plain Go.Proofs.Ytinabbdecmjcpaa.Words Go.Proofs.Ytinabbdecmjcpaa.Hex
set_option linter.unusedVariables false

theorem flip_same {P : Program} {f : FuncId} {args : Array Value} {w : World} {v : Value} (h : Calls P f args w fun e w' => e = .returned v ∧ w = w') : Calls P f args w fun e w' => e = .returned v ∧ w' = w := h.mono fun _ _ ⟨he, hw⟩ => ⟨he, hw.symm⟩
theorem crow_form_cap {w : World} {v : Value} {l : List UInt8} (h : CRow w v l) : ∃ a cap, v = .slice a l.length cap ∧ cap ≤ maxLen ∧ (a = none → cap = 0) ∧ l.length ≤ cap := by
  rcases h with ⟨rfl, a, cap, rfl, hn, hm⟩ | ⟨g, o, cap, rfl, h0, h1, h2, _⟩
  · exact ⟨a, cap, rfl, hm, hn, Nat.zero_le _⟩
  · exact ⟨_, cap, rfl, h2, (fun h => by cases h), h1⟩
theorem crow_take {w : World} {a : Option Addr} {cap : Nat} {l : List UInt8} (h : CRow w (.slice a l.length cap) l) (t : Nat) (ht : t ≤ l.length) : CRow w (.slice a t cap) (l.take t) := by
  rcases h with ⟨rfl, a', cap', e, hn, hm⟩ | ⟨g, o, cap', e, h0, h1, h2, hg, hc⟩
  · simp only [List.length_nil, Value.slice.injEq, true_and] at e
    obtain ⟨rfl, rfl⟩ := e
    obtain rfl : t = 0 := by simpa using ht
    exact .inl ⟨rfl, _, _, rfl, hn, hm⟩
  · simp only [Value.slice.injEq, true_and] at e
    obtain ⟨rfl, rfl⟩ := e
    by_cases ht0 : t = 0
    · subst ht0
      exact .inl ⟨rfl, _, _, rfl, (fun h => by cases h), h2⟩
    · have e : (l.take t).length = t := by simp; omega
      exact .inr ⟨g, o, cap, by rw [e], by omega, by omega, h2, hg, fun i hi => by rw [hc i (by omega)]; simp⟩
theorem off_take {a : Option Addr} {len cap b t cap' : Nat} (h : Off (.slice a len cap) b) (ht : t ≤ len) : Off (.slice a t cap') b := by
  intro g o len' cap'' e hl
  cases e
  exact h g o len cap rfl (by omega)

theorem drop_full {w : World} {a : Option Addr} {cap b : Nat} {l : List UInt8} (h : CRow w (.slice a l.length cap) l) (ho : Off (.slice a l.length cap) b) (t : Nat) (ht : t ≤ l.length) (hle : l.length ≤ t) : CRow w (.slice a (l.length - t) 0) (l.drop t) ∧ Off (.slice a (l.length - t) 0) b := by
  obtain rfl : t = l.length := by omega
  rw [List.drop_length, Nat.sub_self]
  exact ⟨.inl ⟨rfl, a, 0, rfl, (fun _ => rfl), Nat.zero_le _⟩, fun g o len cap e hl => by cases e; omega⟩
theorem drop_part {w : World} {a : Option Addr} {cap b : Nat} {l : List UInt8} (h : CRow w (.slice a l.length cap) l) (ho : Off (.slice a l.length cap) b) (t : Nat) (ht : t ≤ l.length) : CRow w (.slice (a.map fun x => x.add t) (l.length - t) (cap - t)) (l.drop t) ∧ Off (.slice (a.map fun x => x.add t) (l.length - t) (cap - t)) b := by
  rcases h with ⟨rfl, a', cap', e, hn, hm⟩ | ⟨g, o, cap', e, h0, h1, h2, hg, hc⟩
  · simp only [List.length_nil, Value.slice.injEq, true_and] at e
    obtain ⟨rfl, rfl⟩ := e
    obtain rfl : t = 0 := by simpa using ht
    refine ⟨.inl ⟨rfl, _, _, rfl, fun h => ?_, by omega⟩, (fun g o len cap e hl => by simp only [Value.slice.injEq, List.length_nil] at e; omega)⟩
    have := hn (by simpa using h)
    omega
  · simp only [Value.slice.injEq, true_and] at e
    obtain ⟨rfl, rfl⟩ := e
    simp only [Option.map_some, addr_add]
    refine ⟨?_, fun g' o' len cap e hl => ?_⟩
    · by_cases e : t = l.length
      · subst e
        rw [List.drop_length, Nat.sub_self]
        exact .inl ⟨rfl, _, _, rfl, (fun h => by cases h), by omega⟩
      · refine .inr ⟨g, o + t, cap - t, by simp, by simp; omega, by simp; omega, by omega, hg, fun i hi => ?_⟩
        simp at hi
        rw [Nat.add_assoc, hc (t + i) (by omega)]
        simp
    · cases e
      exact ho g o _ _ rfl h0

set_option maxRecDepth 100000 in
theorem rdo_full {w : World} {x : Nat} {vB : Value} {q : List UInt8} {c g : Int} (n : Int) (l : List UInt8) (v : Value) (h : RQ w x vB q c g) (hv : CRow w v l) (hl : l.length ≤ 200) (hf : 64 < q.length + l.length) :
    Calls Try.prog 24 #[.pointer (some ⟨x, 0, none⟩), .agg #[.int .i64 1, .int .i64 n, v]] w (RDoPost x vB ⟨[], 0, 15, q, c, g⟩ w) := by
  have ba : Below w.heap.size w (w.alloc (.cells #[.int .i64 1, .int .i64 n, v] 48)) := (Below.refl _ _).alloc (Nat.le_refl _) _
  have H := Lib.hid (h.below ba)
  obtain ⟨av, capv, rfl⟩ := crow_form hv
  obtain ⟨aB, capB, rfl⟩ := crow_form h.row
  have hxl := h.lt
  have r0 := H.out.c0
  have hql := H.out.len
  clear h hv
  have hwr : IntKind.i64.wrap ((q.length : Int) + (l.length : Int)) = (q.length : Int) + (l.length : Int) := IntWalk.i64_in _ (by omega)
  go_enter Try.func24, Try.ntmps24
  go_wp2_with fail
  go_quiet (fail)
  go_wp2
  go_ret3
  exact ⟨_, _, rfl, .inl ⟨rfl, none, 0, rfl, (fun _ => rfl), Nat.zero_le _⟩, rq_drewN H.out nq, fun b _ h => h, Chg.of_below (below_drewN ba nq)⟩

set_option maxRecDepth 100000 in
theorem rdo_drop {w : World} {x : Nat} {vB : Value} {q : List UInt8} {c g : Int} (n : Int) (v : Value) (h : RQ w x vB q c g) :
    Calls Try.prog 24 #[.pointer (some ⟨x, 0, none⟩), .agg #[.int .i64 4, .int .i64 n, v]] w (RDoPost x vB ⟨[], q.length, 0, [], c, g⟩ w) := by
  have ba : Below w.heap.size w (w.alloc (.cells #[.int .i64 4, .int .i64 n, v] 48)) := (Below.refl _ _).alloc (Nat.le_refl _) _
  have H := Lib.hid (h.below ba)
  obtain ⟨aB, capB, rfl⟩ := crow_form h.row
  have hxl := h.lt
  have r0 := H.out.c0
  have r1 := H.out.f0
  have hql := H.out.len
  clear h
  go_enter Try.func24, Try.ntmps24
  go_wp2
  go_ret3
  have hr : RQ ((w.alloc (.cells #[.int .i64 4, .int .i64 n, v] 48)).setCell ⟨x, 0, none⟩ (.slice none 0 0)) x (.slice none 0 0) [] c g := H.out.setRow (.inl ⟨rfl, none, 0, rfl, (fun _ => rfl), Nat.zero_le _⟩) (fun g o len cap e => by cases e) (by simp)
  refine ⟨_, .slice none 0 0, rfl, .inl ⟨rfl, none, 0, rfl, (fun _ => rfl), Nat.zero_le _⟩, ?_, (fun b _ _ g o len cap e => by cases e), ?_⟩
  · rw [World.setCell_alloc_past _ _ _ _ hxl] at hr
    exact hr
  · have := (Chg.of_below (bs := [x]) ba).setCell (p := ⟨x, 0, none⟩) (by simp) (.slice none 0 0)
    rw [World.setCell_alloc_past _ _ _ _ hxl] at this
    exact this

set_option maxRecDepth 100000 in
theorem rdo_none {w : World} {x : Nat} {vB : Value} {q : List UInt8} {c g : Int} (k n : Int) (v : Value) (h : RQ w x vB q c g) (k1 : k ≠ 1) (k2 : k ≠ 2) (k3 : k ≠ 3) (k4 : k ≠ 4) :
    Calls Try.prog 24 #[.pointer (some ⟨x, 0, none⟩), .agg #[.int .i64 k, .int .i64 n, v]] w (RDoPost x vB ⟨[], 0, 0, q, c, g⟩ w) := by
  have ba : Below w.heap.size w (w.alloc (.cells #[.int .i64 k, .int .i64 n, v] 48)) := (Below.refl _ _).alloc (Nat.le_refl _) _
  have H := Lib.hid (h.below ba)
  have e1 : (k == 1) = false := by simp [k1]
  have e2 : (k == 2) = false := by simp [k2]
  have e3 : (k == 3) = false := by simp [k3]
  have e4 : (k == 4) = false := by simp [k4]
  clear h k1 k2 k3 k4
  go_enter Try.func24, Try.ntmps24
  go_wp2
  go_ret3
  exact ⟨_, _, rfl, .inl ⟨rfl, none, 0, rfl, (fun _ => rfl), Nat.zero_le _⟩, H.out, fun b _ h => h, Chg.of_below ba⟩

set_option maxRecDepth 100000 in
theorem rdo_peek {w : World} {x : Nat} {vB : Value} {q : List UInt8} {c g : Int} (n : Int) (v : Value) (h : RQ w x vB q c g) :
    Calls Try.prog 24 #[.pointer (some ⟨x, 0, none⟩), .agg #[.int .i64 3, .int .i64 n, v]] w (RDoPost x vB ⟨q.take (took n q.length), 0, 0, q, c, g⟩ w) := by
  have ba : Below w.heap.size w (w.alloc (.cells #[.int .i64 3, .int .i64 n, v] 48)) := (Below.refl _ _).alloc (Nat.le_refl _) _
  have H := Lib.hid (h.below ba)
  obtain ⟨aB, capB, rfl, hcap, hn, hlc⟩ := crow_form_cap h.row
  have hxl := h.lt
  have r0 := H.out.c0
  have hql := H.out.len
  have HF := Lib.hid (fun W => flip_same (first_any aB q.length capB n W hn hlc hcap))
  clear h hn
  go_enter Try.func24, Try.ntmps24
  go_wp2_with fail
  go_quiet ((go_at_call 56; exact Calls.quiet_of_same (HF.out _)))
  go_wp2
  go_ret3
  exact ⟨_, _, rfl, crow_drewN (crow_take H.out.row _ (took_le _ _)) nq, rq_drewN H.out nq, fun b _ h => h, Chg.of_below (below_drewN ba nq)⟩

set_option maxRecDepth 100000 in
set_option maxHeartbeats 1000000 in
theorem rdo_pop {w : World} {x : Nat} {vB : Value} {q : List UInt8} {c g : Int} (n : Int) (v : Value) (h : RQ w x vB q c g) (hg0 : 0 ≤ g) (hg1 : g ≤ 1000000000) :
    Calls Try.prog 24 #[.pointer (some ⟨x, 0, none⟩), .agg #[.int .i64 2, .int .i64 n, v]] w (RDoPost x vB ⟨q.take (took n q.length), 0, 0, q.drop (took n q.length), c, g + took n q.length⟩ w) := by
  have ba : Below w.heap.size w (w.alloc (.cells #[.int .i64 2, .int .i64 n, v] 48)) := (Below.refl _ _).alloc (Nat.le_refl _) _
  have H := Lib.hid (h.below ba)
  obtain ⟨aB, capB, rfl, hcap, hn, hlc⟩ := crow_form_cap h.row
  have hxl := h.lt
  have r0 := H.out.c0
  have r1 := H.out.f0
  have r2 := H.out.c2
  have r3 := H.out.f2
  have r4 := set_off
  have hql := H.out.len
  have HF := Lib.hid (fun W => flip_same (first_any aB q.length capB n W hn hlc hcap))
  have ht := took_le n q.length
  have hx1 : x < w.heap.size + 1 := by omega
  generalize took n q.length = t at *
  unfold maxLen at hcap
  clear h
  go_enter Try.func24, Try.ntmps24
  go_wp2_with fail
  go_quiet ((go_at_call 56; exact Calls.quiet_of_same (HF.out _)))
  go_wp2
  · have hct : capB = t := by assumption
    go_ret3
    obtain ⟨d1, d2⟩ := drop_full H.out.row H.out.off t ht (by omega)
    refine ⟨_, _, rfl, crow_set (crow_set (crow_drewN (hct ▸ crow_take H.out.row t ht) nq) (off_take H.out.off ht)) (off_take H.out.off ht), ((rq_drewN H.out nq).setRow (crow_drewN d1 nq) d2 (by simp; omega)).setWent _, fun b hb hof => (drop_full H.out.row (hct ▸ hof) t ht (by omega)).2, ?_⟩
    exact (((Chg.of_below (below_drewN ba nq)).setCell (p := ⟨x, 0, none⟩) (by simp) _).setCell (p := ⟨x, 2, none⟩) (by simp) _)
  · have hct : ¬ capB = t := by assumption
    go_ret3
    obtain ⟨d1, d2⟩ := drop_part H.out.row H.out.off t ht
    refine ⟨_, _, rfl, crow_set (crow_set (crow_drewN (crow_take H.out.row t ht) nq) (off_take H.out.off ht)) (off_take H.out.off ht), ((rq_drewN H.out nq).setRow (crow_drewN d1 nq) d2 (by simp; omega)).setWent _, fun b hb hof => (drop_part H.out.row hof t ht).2, ?_⟩
    exact (((Chg.of_below (below_drewN ba nq)).setCell (p := ⟨x, 0, none⟩) (by simp) _).setCell (p := ⟨x, 2, none⟩) (by simp) _)

/-- The reference's Do: a step. -/
theorem rdo_any {w : World} {x : Nat} {vB : Value} {q : List UInt8} {c g : Int} (k n : Int) (l : List UInt8) (v : Value) (h : RQ w x vB q c g) (hv : CRow w v l) (hl : l.length ≤ 200) (ho : Off v x) (hc0 : 0 ≤ c) (hc1 : c ≤ 1000000000) (hg0 : 0 ≤ g) (hg1 : g ≤ 1000000000) :
    Calls Try.prog 24 #[.pointer (some ⟨x, 0, none⟩), .agg #[.int .i64 k, .int .i64 n, v]] w (RDoPost x vB (step k n l q c g) w) := by
  by_cases k1 : k = 1
  · subst k1
    by_cases hf : 64 < q.length + l.length
    · rw [show step 1 n l q c g = ⟨[], 0, 15, q, c, g⟩ by simp [step, hf]]
      exact rdo_full n l v h hv hl hf
    · rw [show step 1 n l q c g = ⟨[], 0, 0, q ++ l, c + l.length, g⟩ by simp [step, hf]]
      exact rdo_push n l v h hv ho hc0 hc1 (by omega)
  · by_cases k2 : k = 2
    · subst k2
      rw [show step 2 n l q c g = ⟨q.take (took n q.length), 0, 0, q.drop (took n q.length), c, g + took n q.length⟩ by simp [step]]
      exact rdo_pop n v h hg0 hg1
    · by_cases k3 : k = 3
      · subst k3
        rw [show step 3 n l q c g = ⟨q.take (took n q.length), 0, 0, q, c, g⟩ by simp [step]]
        exact rdo_peek n v h
      · by_cases k4 : k = 4
        · subst k4
          rw [show step 4 n l q c g = ⟨[], q.length, 0, [], c, g⟩ by simp [step]]
          exact rdo_drop n v h
        · rw [show step k n l q c g = ⟨[], 0, 0, q, c, g⟩ by simp [step, k1, k2, k3, k4]]
          exact rdo_none k n v h k1 k2 k3 k4
end Go.Proofs.Ytinabbdecmjcpaa.Queue
