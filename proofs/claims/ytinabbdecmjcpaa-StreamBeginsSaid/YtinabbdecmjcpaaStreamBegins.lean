/- StreamBegins: for every text and step the law returns true, and they read afterwards as before. -/
import Derived.Test.YtinabbdecmjcpaaRows
import Derived.WalkKit
import Derived.ProofKit
import Derived.OpenShut
import Derived.ShutString
import Derived.ChangeOld
import Derived.Below
import Derived.Test.YtinabbdecmjcpaaStreamRef
namespace Go.Proofs.Ytinabbdecmjcpaa.streamBegins
open Go.ChangeShapes Go.WideShapes Go.ChangeAt Go.RowKit
open Go.ChangeMaps (open_string shut_string)
open Go.Proofs.Ytinabbdecmjcpaa Go.Proofs.Ytinabbdecmjcpaa.Plain Go.Proofs.Ytinabbdecmjcpaa.Words Go.Proofs.Ytinabbdecmjcpaa.Named Go.Proofs.Ytinabbdecmjcpaa.Hex Go.Proofs.Ytinabbdecmjcpaa.Queue Go.Proofs.Ytinabbdecmjcpaa.Stream Go.Deep Go.Lib Go.Joins
set_option linter.unusedVariables false

theorem own : ownKnob Try.prog.godebug = none := by kernel_rfl
theorem laidOut : laidOutB Try.prog = true := by kernel_rfl

theorem one_step {w : World} (k n : Int) (v : Value) (l : List UInt8) (t : TypeId) (hk0 : -9223372036854775808 ≤ k) (hk1 : k ≤ 9223372036854775807) (hn0 : -9223372036854775808 ≤ n) (hn1 : n ≤ 9223372036854775807) (hr : CRow w v l) (hl : l.length ≤ maxLen) :
    Queue.Steps (w.alloc (.cells #[.int .i64 k, .int .i64 n, v] t)) (.slice (some ⟨w.heap.size, 0, none⟩) 1 1) 1 := by
  have hb : Below w.heap.size w (w.alloc (.cells #[.int .i64 k, .int .i64 n, v] t)) := (Below.refl _ _).alloc (Nat.le_refl _) _
  refine .inr ⟨w.heap.size, 0, 1, rfl, by omega, by unfold maxLen; omega, by simp, fun i hi => ?_⟩
  obtain rfl : i = 0 := by omega
  exact ⟨k, n, v, l, World.cell?_alloc_at _ _ _ _ rfl, World.cell?_alloc_at _ _ _ _ rfl, World.cell?_alloc_at _ _ _ _ rfl, hk0, hk1, hn0, hn1, crow_below hr hb, hl, fun b hb' => off_old (crow_below hr hb) b hb'⟩

theorem below3 {w w1 : World} {o : Obj} (h : Below (w.alloc o).heap.size (w.alloc o) w1) : Below w.heap.size w w1 := ((Below.refl _ _).alloc (Nat.le_refl _) o).trans (h.mono (by simp))

theorem kept3 {w w2 : World} {a b c : Value} {o : Obj} {t : TypeId} (h : Below ((w.alloc (.cells #[a, b, c] t)).alloc o).heap.size ((w.alloc (.cells #[a, b, c] t)).alloc o) w2) :
    w2.cell? ⟨w.heap.size, 0, none⟩ = some a ∧ w2.cell? ⟨w.heap.size, 1, none⟩ = some b ∧ w2.cell? ⟨w.heap.size, 2, none⟩ = some c := by
  have h' := below3 h
  have l : w.heap.size < (w.alloc (.cells #[a, b, c] t)).heap.size := by simp
  exact ⟨(h'.cell (p := ⟨w.heap.size, 0, none⟩) l).trans (World.cell?_alloc_at _ _ _ _ rfl), (h'.cell (p := ⟨w.heap.size, 1, none⟩) l).trans (World.cell?_alloc_at _ _ _ _ rfl), (h'.cell (p := ⟨w.heap.size, 2, none⟩) l).trans (World.cell?_alloc_at _ _ _ _ rfl)⟩

set_option maxRecDepth 100000 in
set_option maxHeartbeats 4000000 in
theorem walk (a0 : ByteArray) (k n : Int) (v : Value) (l : List UInt8) (w : World) (w0 : a0.size ≤ maxLen) (hk0 : -9223372036854775808 ≤ k) (hk1 : k ≤ 9223372036854775807) (hn0 : -9223372036854775808 ≤ n) (hn1 : n ≤ 9223372036854775807) (hr : CRow w v l) (hl : l.length ≤ maxLen) :
    Calls Try.prog 9 #[.string a0, .agg #[.int .i64 k, .int .i64 n, v]] w fun e w' => e = .returned (.bool true) ∧ Below w.heap.size w w' := by
  obtain ⟨a, cap, hv⟩ := crow_form hr
  unfold maxLen at w0
  by_cases hbig : 100 < a0.size
  · rw [hv]
    clear hr hv
    go_enter Try.func9, Try.ntmps9
    go_wp2_with (go_at_call 32; refine (awake26 _).mono ?_; rintro e w2 ⟨rfl, hb1⟩)
    go_ret
    exact ⟨rfl, below3 hb1⟩
  · have hst := one_step (w := w.alloc (.cells #[.int .i64 k, .int .i64 n, v] 60)) k n v l 60 hk0 hk1 hn0 hn1 (crow_below hr ((Below.refl _ _).alloc (Nat.le_refl _) _)) hl
    rw [show (w.alloc (.cells #[.int .i64 k, .int .i64 n, v] 60)).heap.size = w.heap.size + 1 by simp] at hst
    have HL := Lib.hid (large26 hst)
    clear hst
    have hnil := Lib.hid (fun W => do_nil W k n v ⟨a, _, cap, hv⟩)
    rw [hv] at HL hnil ⊢
    clear hr hv hl
    have haw := Lib.hid awake26
    have hRT := Lib.hid (fun W => reftarget_any a0 W (by omega))
    have hNO := Lib.hid (fun W => new_no a0 W (by omega))
    have hOK := Lib.hid (fun W => new_ok a0 W (by omega))
    generalize l.length = m at *
    go_enter Try.func9, Try.ntmps9
    go_wp2_with fail
    refine HL.out.mono ?_
    rintro e w1 ⟨bb, rfl, rfl, _⟩
    cases bb
    · cases hN : namedB 24 markB smallB (L a0)
      · rw [hN] at hRT
        have hNO' := Lib.hid (fun W => hNO.out W hN)
        clear hN hNO hOK
        have hx : (k < 1 ∨ 4 < k) ∨ (1 ≤ k ∧ k ≤ 4) := by omega
        rcases hx with hx | ⟨hx1, hx2⟩
        · have hE : nilErr k = 0 := by unfold nilErr; rw [if_pos hx]
          rw [hE] at hnil
          clear hE
          rcases hx with hx | hx
          · have q1 : decide (k < 1) = true := by simp; omega
            go_wp2_with fail
            refine (hNO'.out _).mono ?_
            rintro e w2 ⟨rfl, hb2⟩
            have hs2 := hb2.size
            obtain ⟨x0, x1, x2⟩ := kept3 hb2
            have hlt2 : w.heap.size < w2.heap.size := by simp at hs2; omega
            have B2 := Lib.hid hb2
            clear hb2
            go_wp2_with (first | (go_at_call 36; refine (hRT.out _).mono ?_; rintro e w' ⟨rfl, rfl⟩) | (go_at_call 34; refine (hnil.out _).mono ?_; rintro e w3 ⟨rfl, hb3⟩; have hs3 := hb3.size; have z0 := (hb3.cell (p := ⟨w.heap.size, 0, none⟩) hlt2).trans x0; have B3 := Lib.hid hb3; clear hb3) | (go_at_call 37; refine (target_nil _).mono ?_; rintro e w' ⟨rfl, rfl⟩) | (go_at_call 35; refine (waits_nil _ _).mono ?_; rintro e w' ⟨rfl, rfl⟩) | (go_at_call 38; refine (size_nil _ _).mono ?_; rintro e w' ⟨rfl, rfl⟩) | (go_at_call 39; refine (ready_nil _ _).mono ?_; rintro e w' ⟨rfl, rfl⟩) | (go_at_call 40; refine (done_nil _).mono ?_; rintro e w' ⟨rfl, rfl⟩) | (go_at_call 32; refine (haw.out _).mono ?_; rintro e w4 ⟨rfl, hb4⟩))
            go_ret
            exact ⟨rfl, below3 (below3 ((B2.out.trans (B3.out.mono hs2)).trans (hb4.mono (by omega))))⟩
          · have q1 : decide (k < 1) = false := by simp; omega
            go_wp2_with fail
            refine (hNO'.out _).mono ?_
            rintro e w2 ⟨rfl, hb2⟩
            have hs2 := hb2.size
            obtain ⟨x0, x1, x2⟩ := kept3 hb2
            have hlt2 : w.heap.size < w2.heap.size := by simp at hs2; omega
            have B2 := Lib.hid hb2
            clear hb2
            go_wp2_with (first | (go_at_call 36; refine (hRT.out _).mono ?_; rintro e w' ⟨rfl, rfl⟩) | (go_at_call 34; refine (hnil.out _).mono ?_; rintro e w3 ⟨rfl, hb3⟩; have hs3 := hb3.size; have z0 := (hb3.cell (p := ⟨w.heap.size, 0, none⟩) hlt2).trans x0; have B3 := Lib.hid hb3; clear hb3) | (go_at_call 37; refine (target_nil _).mono ?_; rintro e w' ⟨rfl, rfl⟩) | (go_at_call 35; refine (waits_nil _ _).mono ?_; rintro e w' ⟨rfl, rfl⟩) | (go_at_call 38; refine (size_nil _ _).mono ?_; rintro e w' ⟨rfl, rfl⟩) | (go_at_call 39; refine (ready_nil _ _).mono ?_; rintro e w' ⟨rfl, rfl⟩) | (go_at_call 40; refine (done_nil _).mono ?_; rintro e w' ⟨rfl, rfl⟩) | (go_at_call 32; refine (haw.out _).mono ?_; rintro e w4 ⟨rfl, hb4⟩))
            go_ret
            exact ⟨rfl, below3 (below3 ((B2.out.trans (B3.out.mono hs2)).trans (hb4.mono (by omega))))⟩
        · have hE : nilErr k = 8 := by unfold nilErr; rw [if_neg (by omega)]
          rw [hE] at hnil
          clear hE
          go_wp2_with fail
          refine (hNO'.out _).mono ?_
          rintro e w2 ⟨rfl, hb2⟩
          have hs2 := hb2.size
          obtain ⟨x0, x1, x2⟩ := kept3 hb2
          have hlt2 : w.heap.size < w2.heap.size := by simp at hs2; omega
          have B2 := Lib.hid hb2
          clear hb2
          go_wp2_with (first | (go_at_call 36; refine (hRT.out _).mono ?_; rintro e w' ⟨rfl, rfl⟩) | (go_at_call 34; refine (hnil.out _).mono ?_; rintro e w3 ⟨rfl, hb3⟩; have hs3 := hb3.size; have z0 := (hb3.cell (p := ⟨w.heap.size, 0, none⟩) hlt2).trans x0; have B3 := Lib.hid hb3; clear hb3) | (go_at_call 37; refine (target_nil _).mono ?_; rintro e w' ⟨rfl, rfl⟩) | (go_at_call 35; refine (waits_nil _ _).mono ?_; rintro e w' ⟨rfl, rfl⟩) | (go_at_call 38; refine (size_nil _ _).mono ?_; rintro e w' ⟨rfl, rfl⟩) | (go_at_call 39; refine (ready_nil _ _).mono ?_; rintro e w' ⟨rfl, rfl⟩) | (go_at_call 40; refine (done_nil _).mono ?_; rintro e w' ⟨rfl, rfl⟩) | (go_at_call 32; refine (haw.out _).mono ?_; rintro e w4 ⟨rfl, hb4⟩))
          go_ret
          exact ⟨rfl, below3 (below3 ((B2.out.trans (B3.out.mono hs2)).trans (hb4.mono (by omega))))⟩
      · rw [hN] at hRT
        have hOK' := Lib.hid (fun W => hOK.out W hN)
        clear hN hNO hOK
        go_wp2_with (first | (go_at_call 33; refine (hOK'.out _).mono ?_; rintro e w2 ⟨x, b0, b1, rfl, hs, hb0, hb1, hx, hb2⟩; have HS := Lib.hid hs; clear hs) | (go_at_call 36; refine (hRT.out _).mono ?_; rintro e w' ⟨rfl, rfl⟩) | (go_at_call 37; refine (target_at HS.out).mono ?_; rintro e w' ⟨rfl, rfl⟩) | (go_at_call 38; refine (size0 HS.out).mono ?_; rintro e w' ⟨rfl, rfl⟩) | (go_at_call 40; refine (done_no HS.out).mono ?_; rintro e w' ⟨rfl, rfl⟩) | (go_at_call 32; refine (haw.out _).mono ?_; rintro e w3 ⟨rfl, hb3⟩))
        go_ret
        exact ⟨rfl, below3 (below3 (hb2.trans (hb3.mono hb2.size)))⟩
    · go_wp2_with (go_at_call 32; refine (haw.out _).mono ?_; rintro e w3 ⟨rfl, hb3⟩)
      go_ret
      exact ⟨rfl, below3 (below3 hb3)⟩

set_option maxRecDepth 100000 in
theorem lifted (os : Os) (started : os.Started) (H : Type) (enc : TypeId × Value → H) :
    ReturnsInHanded {} Try.checked os 9 .any (Rows.streamBeginsSpec.pre6 enc Try.prog Try.f9 Rows.streamBeginsRow.domain false) (Rows.streamBeginsSpec.post enc Try.prog Try.f9 false true false false) := by
  refine returnsInHanded_of_change (C := Try.checked) own started (by kernel_rfl) Try.func9
    (ChangeSpec.witness6 (enc := enc) (C := Try.checked) false ⟨#[], #[.string ByteArray.empty, .agg #[.int .i64 0, .int .i64 0, .slice none 0 0]], []⟩ 8 (by kernel_rfl) (by kernel_rfl) (by kernel_rfl) (by kernel_rfl)) ?_
  intro W base args ds gs before hval0 hW hcnd _
  have hval : ∀ (j : Nat) t v, Try.f9.params[j]? = some t → args[j]? = some v → Value.okWide Try.prog W .any base t v := hval0
  have hW' := hW
  obtain ⟨p, q, hA0, hV, rfl, hfz, hnd⟩ := hW
  have hA : DataW.TrodAll enc Try.prog W 0 (fun _ => true) true Try.f9.params.toList args.toList ds p := hA0
  rw [Try.params9] at hA hval
  obtain ⟨v0, vs0, d0, ds0, p0, q0, hargs, rfl, rfl, h0, r0⟩ := trodAll_cons hA
  obtain ⟨v1, vs1, d1, ds1, p1, q1, rfl, rfl, rfl, h1, r1⟩ := trodAll_cons r0
  obtain ⟨rfl, rfl, rfl⟩ := trodAll_nil r1
  obtain rfl : args = #[v0, v1] := by cases args; simp_all
  obtain ⟨rfl, rfl⟩ := trodVars_none hV
  have k0 := h0
  have lt0 : ∀ x ∈ p0, x.block < W.heap.size := by obtain ⟨m, hm⟩ := k0; exact DataW.trod_lt m _ _ _ hm
  have k1 := h1
  have lt1 : ∀ x ∈ p1, x.block < W.heap.size := by obtain ⟨m, hm⟩ := k1; exact DataW.trod_lt m _ _ _ hm
  obtain ⟨a0, rfl, rfl, rfl, w0⟩ := open_string Try.underlying9 (hval 0 9 v0 rfl rfl) h0
  obtain ⟨c0, c1, c2, y0, y1, y2, m, rfl, rfl, rfl, t0, t1, t2⟩ := open_agg3 Try.underlying60 (by kernel_rfl) (by kernel_rfl) (hval 1 60 v1 rfl rfl) h1
  obtain ⟨k, e0, _, wk⟩ := DataW.trod_int Try.underlying3 (show DataW.trod enc Try.prog W 0 (fun _ => true) true m 3 [c0] = some y0 from t0)
  obtain ⟨nn, e1, _, wn⟩ := DataW.trod_int Try.underlying3 (show DataW.trod enc Try.prog W 0 (fun _ => true) true m 3 [c1] = some y1 from t1)
  obtain ⟨l, hrow, hlen⟩ := open_bytes (show DataW.trod enc Try.prog W 0 (fun _ => true) true m 22 [c2] = some y2 from t2)
  simp at e0 e1
  subst e0 e1
  obtain ⟨a1, a2⟩ := bounds_i64 wk
  obtain ⟨a3, a4⟩ := bounds_i64 wn
  clear hA0 hval0
  refine (walk a0 k nn c2 l W w0 a1 a2 a3 a4 hrow hlen).mono fun e W' ⟨he, bel⟩ => ?_
  subst he
  exact ⟨_, rfl, _, _, _, [], _, [], hW', trodAll_mk1 (shut_bool Try.underlying4 _), (trodAll_cons_mk (Below.trod laidOut (by kernel_rfl) (of_decide_eq_true (by kernel_rfl)) k0 bel lt0) (trodAll_cons_mk (Below.trod laidOut (by kernel_rfl) (of_decide_eq_true (by kernel_rfl)) k1 bel lt1) trodAll_mk0)), rfl, bel.frame _, fun h => by cases h⟩

theorem over : Rows.streamBeginsRow.holds Try.pinned (OpenSpec.ofChange Rows.streamBeginsSpec) :=
  OpenClaim.holds_of_wide 9 Try.f9 rfl rfl rfl rfl rfl rfl rfl ⟨rfl, rfl, rfl, rfl, rfl⟩ rfl rfl rfl rfl rfl (by kernel_rfl) Try.func9 (by kernel_rfl)
    (of_decide_eq_true (by kernel_rfl)) (by unfold Func.isWrapper; first | (rw [if_pos (by decide +kernel)]; kernel_rfl) | (rw [if_neg (by decide +kernel)]; exact ⟨rfl, rfl⟩))
    (fun os started H enc _ => lifted os started H enc)

theorem proved : Rows.StreamBeginsSaid := over
#print axioms proved
end Go.Proofs.Ytinabbdecmjcpaa.streamBegins
