/- EventPrints, walked: for every two events the law returns true. -/
import Derived.Deep.RegionHeld3
import Derived.Test.YtinabbdecmjcpaaDoorG14
namespace Go.Proofs.YtinabbdecmjcpaaDoor.Script
open Go.RowKit Go.Deep Go.Proofs.YtinabbdecmjcpaaDoor Go.Proofs.YtinabbdecmjcpaaDoor.Plain Go.Proofs.YtinabbdecmjcpaaDoor.Words Go.Proofs.YtinabbdecmjcpaaDoor.Named Go.Proofs.YtinabbdecmjcpaaDoor.Hex Go.Proofs.YtinabbdecmjcpaaDoor.Number Go.Proofs.YtinabbdecmjcpaaDoor.Queue Go.Proofs.YtinabbdecmjcpaaDoor.Line Go.Proofs.YtinabbdecmjcpaaDoor.Ev
set_option linter.unusedVariables false

theorem evin_new (w : World) (e o : Ev) (ve vo : Value) (he : CRow w ve e.data) (ho : CRow w vo o.data) (t : TypeId) :
    ERow (w.alloc (.cells #[.int .i64 e.kind, .int .i64 e.session, .int .i64 e.stream, .string e.tenant, .int .u64 (e.n : Int), .int .i64 e.m, .int .u64 (e.bits : Int), ve, .int .i64 o.kind, .int .i64 o.session, .int .i64 o.stream, .string o.tenant, .int .u64 (o.n : Int), .int .i64 o.m, .int .u64 (o.bits : Int), vo] t)) (.slice (some ⟨w.heap.size, 0, none⟩) 2 2) [e, o] := by
  refine .inr ⟨w.heap.size, 0, 2, rfl, fun i f hf => ?_⟩
  have hb : Below w.heap.size w (w.alloc (.cells #[.int .i64 e.kind, .int .i64 e.session, .int .i64 e.stream, .string e.tenant, .int .u64 (e.n : Int), .int .i64 e.m, .int .u64 (e.bits : Int), ve, .int .i64 o.kind, .int .i64 o.session, .int .i64 o.stream, .string o.tenant, .int .u64 (o.n : Int), .int .i64 o.m, .int .u64 (o.bits : Int), vo] t)) := (Below.refl _ _).alloc (Nat.le_refl _) _
  match i, hf with
  | 0, hf =>
    simp at hf
    subst hf
    exact ⟨ve, World.cell?_alloc_at _ _ _ _ rfl, World.cell?_alloc_at _ _ _ _ rfl, World.cell?_alloc_at _ _ _ _ rfl, World.cell?_alloc_at _ _ _ _ rfl, World.cell?_alloc_at _ _ _ _ rfl, World.cell?_alloc_at _ _ _ _ rfl, World.cell?_alloc_at _ _ _ _ rfl, World.cell?_alloc_at _ _ _ _ rfl, crow_below he hb⟩
  | 1, hf =>
    simp at hf
    subst hf
    exact ⟨vo, World.cell?_alloc_at _ _ _ _ rfl, World.cell?_alloc_at _ _ _ _ rfl, World.cell?_alloc_at _ _ _ _ rfl, World.cell?_alloc_at _ _ _ _ rfl, World.cell?_alloc_at _ _ _ _ rfl, World.cell?_alloc_at _ _ _ _ rfl, World.cell?_alloc_at _ _ _ _ rfl, World.cell?_alloc_at _ _ _ _ rfl, crow_below ho hb⟩
  | (k + 2), hf => simp at hf

set_option maxRecDepth 100000 in
set_option maxHeartbeats 4000000 in
theorem prints_walk (e o : Ev) (ve vo : Value) (w : World) (be : EvBnd e) (bo : EvBnd o) (he : CRow w ve e.data) (ho : CRow w vo o.data) (hT : Tab w) :
    Calls Tryd.prog 4 #[evV e ve, evV o vo] w fun r w' => r = .returned (.bool true) ∧ Below w.heap.size w w' := by
  obtain ⟨ae, ce, rfl⟩ := crow_form he
  obtain ⟨ao, co, rfl⟩ := crow_form ho
  have hrb := reachBytes_lt
  obtain ⟨w0, hw0⟩ : ∃ w0, w0 = w.alloc (.cells #[.int .i64 e.kind, .int .i64 e.session, .int .i64 e.stream, .string e.tenant, .int .u64 (e.n : Int), .int .i64 e.m, .int .u64 (e.bits : Int), .slice ae e.data.length ce] 31) := ⟨_, rfl⟩
  obtain ⟨w1, hw1⟩ : ∃ w1, w1 = w0.alloc (.cells #[.int .i64 o.kind, .int .i64 o.session, .int .i64 o.stream, .string o.tenant, .int .u64 (o.n : Int), .int .i64 o.m, .int .u64 (o.bits : Int), .slice ao o.data.length co] 31) := ⟨_, rfl⟩
  obtain ⟨w2, hw2⟩ : ∃ w2, w2 = w1.alloc (.cells #[.int .i64 e.kind, .int .i64 e.session, .int .i64 e.stream, .string e.tenant, .int .u64 (e.n : Int), .int .i64 e.m, .int .u64 (e.bits : Int), .slice ae e.data.length ce, .int .i64 o.kind, .int .i64 o.session, .int .i64 o.stream, .string o.tenant, .int .u64 (o.n : Int), .int .i64 o.m, .int .u64 (o.bits : Int), .slice ao o.data.length co] 31) := ⟨_, rfl⟩
  have b0 : Below w.heap.size w w0 := by rw [hw0]; exact (Below.refl _ _).alloc (Nat.le_refl _) _
  have b1 : Below w0.heap.size w0 w1 := by rw [hw1]; exact (Below.refl _ _).alloc (Nat.le_refl _) _
  have b2 : Below w1.heap.size w1 w2 := by rw [hw2]; exact (Below.refl _ _).alloc (Nat.le_refl _) _
  have z0 : w0.heap.size = w.heap.size + 1 := by rw [hw0]; simp
  have z1 : w1.heap.size = w0.heap.size + 1 := by rw [hw1]; simp
  have x0 : EvC w0 w.heap.size e (.slice ae e.data.length ce) := by rw [hw0]; exact C8.new _ _ _ _ _ _ _ _ _ _
  have x1 : EvC w1 w0.heap.size o (.slice ao o.data.length co) := by rw [hw1]; exact C8.new _ _ _ _ _ _ _ _ _ _
  have hrow : ERow w2 (.slice (some ⟨w1.heap.size, 0, none⟩) 2 2) [e, o] := by
    rw [hw2]
    exact evin_new w1 e o _ _ (crow_below he (bt b0 b1)) (crow_below ho (bt b0 b1)) 31
  have hlg := large41 [e, o] _ w2 hrow (by simp) (fun f hf => by
    have h1 := be.tenant
    have h2 := be.data
    have h3 := bo.tenant
    have h4 := bo.data
    simp at hf
    rcases hf with rfl | rfl <;> constructor <;> omega)
  have hlg' : Hid (Calls Tryd.prog 10 #[.slice (some ⟨w1.heap.size, 0, none⟩) 2 2] w2 fun r w' => r = .returned (.bool (largeB [e, o])) ∧ w2 = w') := Lib.hid hlg
  rw [z1, z0] at hlg'
  have B := Lib.hid (bt (bt b0 b1) b2)
  rw [z0] at x1
  have X := Lib.hid (And.intro (C8.below (C8.below x0 b1) b2) (C8.below x1 b2))
  have HA := Lib.hid (fun W h => awake39 W h)
  have HT := Lib.hid hT
  have HE := Lib.hid (And.intro he.row ho.row)
  have Z := Lib.hid (And.intro z0 z1)
  have BB := Lib.hid (And.intro be bo)
  clear hlg hrow b0 b1 b2 z0 z1 x0 x1 hT he ho be bo hrb
  obtain ⟨lg, hlgv⟩ : ∃ lg, largeB [e, o] = lg := ⟨_, rfl⟩
  rw [hlgv] at hlg'
  cases lg
  · have hsm := Lib.hid ((large_small [e, o] hlgv).2)
    clear hlgv
    have hpp := Lib.hid (fun W (h : BRow W (.slice ae e.data.length ce) e.data) => print39 e (.slice ae e.data.length ce) W ⟨BB.out.1.fits, by have := (hsm.out e (by simp)).1; omega, by have := (hsm.out e (by simp)).2; omega⟩ h)
    have hps := print_small e ⟨BB.out.1.fits, by have := (hsm.out e (by simp)).1; omega, by have := (hsm.out e (by simp)).2; omega⟩ (hsm.out e (by simp)).1 (hsm.out e (by simp)).2
    have hpa := Lib.hid (fun W => parse_any (S ((printOf e).getD [])) W hps)
    have hpr := Lib.hid (fun W h1 h2 => evprint_any e (.slice ae e.data.length ce) W BB.out.1.fits2 (by have := (hsm.out e (by simp)).1; omega) (by have := (hsm.out e (by simp)).2; omega) h1 h2)
    have hck := Lib.hid (fun W h1 h2 => evcheck_any e (.slice ae e.data.length ce) W BB.out.1.fits2 (by have := (hsm.out e (by simp)).1; omega) (by have := (hsm.out e (by simp)).2; omega) h1 h2)
    have hpb := Lib.hid (fun s (h : printOf e = some s) => parse_print e s BB.out.1.fits h)
    have hS16 := Lib.hid (fun W (va vb : Value) h1 h2 => sameEv e o va vb W (by have := (hsm.out e (by simp)).2; omega) (by have := (hsm.out o (by simp)).2; omega) h1 h2)
    have hS16e := Lib.hid (fun W (va vb : Value) h1 h2 => sameEv e e va vb W (by have := (hsm.out e (by simp)).2; omega) (by have := (hsm.out e (by simp)).2; omega) h1 h2)
    have hS17 := Lib.hid (fun W (va vb : Value) h1 h2 => sameEv17 e o va vb W h1 h2)
    have hS17e := Lib.hid (fun W (va vb : Value) h1 h2 => sameEv17 e e va vb W h1 h2)
    clear hps BB hsm
    rw [hw2, hw1, hw0] at hlg'
    rw [hw2, hw1, hw0] at B X
    clear Z hw2 hw1 hw0 w2 w1 w0
    cases hp : printOf e with
    | none =>
      simp only [hp, Option.getD_none, Option.isSome_none, Bool.false_eq_true, if_false] at hpp hpa hpr hck
      generalize parseOf (L (S [])) = PP at hpa
      obtain ⟨P, no⟩ := PP
      have HPP : Hid (∀ W, BRow W (.slice ae e.data.length ce) e.data → Calls Tryd.prog 12 #[evV e (.slice ae e.data.length ce)] W fun r w' => r = .returned (.tuple #[.string (S []), .bool false]) ∧ Below W.heap.size W w') := Lib.hid fun W h => (hpp.out W h).mono fun _ _ ⟨a, b⟩ => ⟨by rw [a, hp]; rfl, b⟩
      have HPA : Hid (∀ W, Calls Tryd.prog 13 #[.string (S [])] W fun r w' => ∃ a c, r = .returned (.tuple #[evV P (.slice a P.data.length c), .int .i64 (no : Int)]) ∧ BRow w' (.slice a P.data.length c) P.data ∧ Below W.heap.size W w') := Lib.hid fun W => (hpa.out W).mono fun _ _ ⟨dv, a, b, _, c⟩ => by
        obtain ⟨da, dc, rfl⟩ := crow_form b
        exact ⟨da, dc, a, b.row, c⟩
      clear hpp hpa hp hpb
      generalize S [] = sv at *
      go_enter Tryd.func4, Tryd.ntmps4
      go_wp2_with fail
      refine hlg'.out.mono ?_
      rintro r w3 ⟨rfl, rfl⟩
      clear hlg'
      generalize ((w.alloc (.cells #[.int .i64 e.kind, .int .i64 e.session, .int .i64 e.stream, .string e.tenant, .int .u64 (e.n : Int), .int .i64 e.m, .int .u64 (e.bits : Int), .slice ae e.data.length ce] 31)).alloc (.cells #[.int .i64 o.kind, .int .i64 o.session, .int .i64 o.stream, .string o.tenant, .int .u64 (o.n : Int), .int .i64 o.m, .int .u64 (o.bits : Int), .slice ao o.data.length co] 31)).alloc (.cells #[.int .i64 e.kind, .int .i64 e.session, .int .i64 e.stream, .string e.tenant, .int .u64 (e.n : Int), .int .i64 e.m, .int .u64 (e.bits : Int), .slice ae e.data.length ce, .int .i64 o.kind, .int .i64 o.session, .int .i64 o.stream, .string o.tenant, .int .u64 (o.n : Int), .int .i64 o.m, .int .u64 (o.bits : Int), .slice ao o.data.length co] 31) = w2 at *
      obtain ⟨⟨x0, x1, x2, x3, x4, x5, x6, x7, xf⟩, ⟨y0, y1, y2, y3, y4, y5, y6, y7, yf⟩⟩ := X.out
      clear xf yf
      go_wp2_with fail
      refine (HPP.out _ (brow_below B.out HE.out.1)).mono ?_
      rintro r w3 ⟨rfl, hb3⟩
      have X2 := X
      have B2 := B
      clear X B
      have X3 := Lib.hid (And.intro (C8.below X2.out.1 hb3) (C8.below X2.out.2 hb3))
      have B3 := Lib.hid (bt B2.out hb3)
      clear x0 x1 x2 x3 x4 x5 x6 x7 y0 y1 y2 y3 y4 y5 y6 y7
      obtain ⟨⟨x0, x1, x2, x3, x4, x5, x6, x7, xf⟩, ⟨y0, y1, y2, y3, y4, y5, y6, y7, yf⟩⟩ := X3.out
      clear xf yf hb3 X2 B2
      go_wp2_with fail
      refine (HPA.out _).mono ?_
      rintro r w4' ⟨a4, c4, rfl, hr4, hb4'⟩
      have X4' := Lib.hid (And.intro (C8.below X3.out.1 hb4') (C8.below X3.out.2 hb4'))
      clear x0 x1 x2 x3 x4 x5 x6 x7 y0 y1 y2 y3 y4 y5 y6 y7
      obtain ⟨⟨x0, x1, x2, x3, x4, x5, x6, x7, xf⟩, ⟨y0, y1, y2, y3, y4, y5, y6, y7, yf⟩⟩ := X4'.out
      clear xf yf
      have l0 : w.heap.size < w4'.heap.size := X4'.out.1.lt
      have l1 : w.heap.size + 1 < w4'.heap.size := X4'.out.2.lt
      have n0 := Nat.ne_of_lt l0
      have n1 := Nat.ne_of_lt l1
      have t1 : (sv.toList != sv.toList) = false := by simp
      go_wp2_with fail
      have hba : Below w4'.heap.size w4' (w4'.alloc (.cells #[.int .i64 P.kind, .int .i64 P.session, .int .i64 P.stream, .string P.tenant, .int .u64 (P.n : Int), .int .i64 P.m, .int .u64 (P.bits : Int), .slice a4 P.data.length c4] 31)) := (Below.refl _ _).alloc (Nat.le_refl _) _
      have hb4 := bt hb4' hba
      have Y4 := Lib.hid (C8.new w4' (.int .i64 P.kind) (.int .i64 P.session) (.int .i64 P.stream) (.string P.tenant) (.int .u64 (P.n : Int)) (.int .i64 P.m) (.int .u64 (P.bits : Int)) (.slice a4 P.data.length c4) 31)
      have R4 := Lib.hid (brow_below hba hr4)
      clear hr4 hba hb4'
      generalize w4'.alloc (.cells #[.int .i64 P.kind, .int .i64 P.session, .int .i64 P.stream, .string P.tenant, .int .u64 (P.n : Int), .int .i64 P.m, .int .u64 (P.bits : Int), .slice a4 P.data.length c4] 31) = w4 at *
      generalize w4'.heap.size = k7 at *
      obtain ⟨z0, z1, z2, z3, z4, z5, z6, z7, zf⟩ := Y4.out
      clear zf X4' l0 l1 n0 n1
      have X4 := Lib.hid (And.intro (C8.below X3.out.1 hb4) (C8.below X3.out.2 hb4))
      have B4 := Lib.hid (bt B3.out hb4)
      clear x0 x1 x2 x3 x4 x5 x6 x7 y0 y1 y2 y3 y4 y5 y6 y7
      obtain ⟨⟨x0, x1, x2, x3, x4, x5, x6, x7, xf⟩, ⟨y0, y1, y2, y3, y4, y5, y6, y7, yf⟩⟩ := X4.out
      clear xf yf hb4 X3 B3
      refine (hpr.out _ (brow_below B4.out HE.out.1) (tab_keep HT.out B4.out)).mono ?_
      rintro r w5 ⟨rfl, hb5⟩
      have X5 := Lib.hid (And.intro (C8.below X4.out.1 hb5) (C8.below X4.out.2 hb5))
      have B5 := Lib.hid (bt B4.out hb5)
      have Y5 := Lib.hid (Y4.out.below hb5)
      have R5 := Lib.hid (brow_below hb5 R4.out)
      clear z0 z1 z2 z3 z4 z5 z6 z7 Y4 R4
      obtain ⟨z0, z1, z2, z3, z4, z5, z6, z7, zf⟩ := Y5.out
      clear zf
      clear x0 x1 x2 x3 x4 x5 x6 x7 y0 y1 y2 y3 y4 y5 y6 y7
      obtain ⟨⟨x0, x1, x2, x3, x4, x5, x6, x7, xf⟩, ⟨y0, y1, y2, y3, y4, y5, y6, y7, yf⟩⟩ := X5.out
      clear xf yf hb5 X4 B4
      go_wp2_with fail
      refine (hck.out _ (brow_below B5.out HE.out.1) (tab_keep HT.out B5.out)).mono ?_
      rintro r w6 ⟨rfl, hb6⟩
      have X6 := Lib.hid (And.intro (C8.below X5.out.1 hb6) (C8.below X5.out.2 hb6))
      have B6 := Lib.hid (bt B5.out hb6)
      have Y6 := Lib.hid (Y5.out.below hb6)
      have R6 := Lib.hid (brow_below hb6 R5.out)
      clear z0 z1 z2 z3 z4 z5 z6 z7 Y5 R5
      obtain ⟨z0, z1, z2, z3, z4, z5, z6, z7, zf⟩ := Y6.out
      clear zf
      clear x0 x1 x2 x3 x4 x5 x6 x7 y0 y1 y2 y3 y4 y5 y6 y7
      obtain ⟨⟨x0, x1, x2, x3, x4, x5, x6, x7, xf⟩, ⟨y0, y1, y2, y3, y4, y5, y6, y7, yf⟩⟩ := X6.out
      clear xf yf hb6 X5 B5
      go_wp2_with fail
      clear z0 z1 z2 z3 z4 z5 z6 z7 Y6 R6 hck hpr HPA HPP t1
      obtain ⟨sb, hsb⟩ : ∃ sb, sameB e o = sb := ⟨_, rfl⟩
      have hse : sameB e e = true := (sameB_iff e e).2 rfl
      have h16 := hS16.out
      have h17 := hS17.out
      have h17e := hS17e.out
      rw [hsb] at h16 h17
      rw [hse] at h17e
      have H16 : Hid (∀ W, BRow W (.slice ae e.data.length ce) e.data → BRow W (.slice ao o.data.length co) o.data → Calls Tryd.prog 16 #[evV e (.slice ae e.data.length ce), evV o (.slice ao o.data.length co)] W fun r w' => r = .returned (.bool sb) ∧ Below W.heap.size W w') := Lib.hid fun W h1 h2 => h16 W _ _ h1 h2
      have H17 : Hid (∀ W, BRow W (.slice ae e.data.length ce) e.data → BRow W (.slice ao o.data.length co) o.data → Calls Tryd.prog 17 #[evV e (.slice ae e.data.length ce), evV o (.slice ao o.data.length co)] W fun r w' => r = .returned (.bool sb) ∧ Below W.heap.size W w') := Lib.hid fun W h1 h2 => h17 W _ _ h1 h2
      have H17e : Hid (∀ W, BRow W (.slice ae e.data.length ce) e.data → Calls Tryd.prog 17 #[evV e (.slice ae e.data.length ce), evV e (.slice ae e.data.length ce)] W fun r w' => r = .returned (.bool true) ∧ Below W.heap.size W w') := Lib.hid fun W h1 => h17e W _ _ h1 h1
      clear hsb hse h16 h17 h17e hS16 hS17 hS17e hS16e
      have hb : Below w6.heap.size w6 w6.drew := (Below.refl _ _).drew
      cases sb
      all_goals
        go_region_held3 (fun w' => w'.cell? ⟨w.heap.size, 0, none⟩ = some (.int .i64 e.kind) ∧ w'.cell? ⟨w.heap.size, 1, none⟩ = some (.int .i64 e.session) ∧ w'.cell? ⟨w.heap.size, 2, none⟩ = some (.int .i64 e.stream) ∧ w'.cell? ⟨w.heap.size, 3, none⟩ = some (.string e.tenant) ∧ w'.cell? ⟨w.heap.size, 4, none⟩ = some (.int .u64 (e.n : Int)) ∧ w'.cell? ⟨w.heap.size, 5, none⟩ = some (.int .i64 e.m) ∧ w'.cell? ⟨w.heap.size, 6, none⟩ = some (.int .u64 (e.bits : Int)) ∧ w'.cell? ⟨w.heap.size, 7, none⟩ = some (.slice ae e.data.length ce) ∧ w'.cell? ⟨w.heap.size + 1, 0, none⟩ = some (.int .i64 o.kind) ∧ w'.cell? ⟨w.heap.size + 1, 1, none⟩ = some (.int .i64 o.session) ∧ w'.cell? ⟨w.heap.size + 1, 2, none⟩ = some (.int .i64 o.stream) ∧ w'.cell? ⟨w.heap.size + 1, 3, none⟩ = some (.string o.tenant) ∧ w'.cell? ⟨w.heap.size + 1, 4, none⟩ = some (.int .u64 (o.n : Int)) ∧ w'.cell? ⟨w.heap.size + 1, 5, none⟩ = some (.int .i64 o.m) ∧ w'.cell? ⟨w.heap.size + 1, 6, none⟩ = some (.int .u64 (o.bits : Int)) ∧ w'.cell? ⟨w.heap.size + 1, 7, none⟩ = some (.slice ao o.data.length co))
          (first | go_keep | exact ⟨keep_c hb x0, keep_c hb x1, keep_c hb x2, keep_c hb x3, keep_c hb x4, keep_c hb x5, keep_c hb x6, keep_c hb x7, keep_c hb y0, keep_c hb y1, keep_c hb y2, keep_c hb y3, keep_c hb y4, keep_c hb y5, keep_c hb y6, keep_c hb y7⟩)
          (first
            | (go_at_call 16; (with_reducible refine (H16.out _ (by exact brow_below (bt B6.out hb) HE.out.1) (by exact brow_below (bt B6.out hb) HE.out.2)).mono ?_); rintro r w9 ⟨rfl, hb9⟩; have hb := bt hb hb9; clear hb9)
            | (go_at_call 17; (with_reducible refine (H17.out _ (by exact brow_below (bt B6.out hb) HE.out.1) (by exact brow_below (bt B6.out hb) HE.out.2)).mono ?_); rintro r w9 ⟨rfl, hb9⟩; have hb := bt hb hb9; clear hb9)
            | (go_at_call 17; (with_reducible refine (H17e.out _ (by exact brow_below (bt B6.out hb) HE.out.1)).mono ?_); rintro r w9 ⟨rfl, hb9⟩; have hb := bt hb hb9; clear hb9)
            | (go_at_call 11; (with_reducible refine (HA.out _ (by exact tab_keep HT.out (bt B6.out hb))).mono ?_); rintro r w9 ⟨rfl, hb9⟩; have hb := bt hb hb9; clear hb9))
        all_goals
          go_wp2
          go_ret
          exact ⟨rfl, bt B6.out hb⟩
    | some s =>
      have hps := hpb.out s hp
      simp only [hp, Option.getD_some, Option.isSome_some, if_true] at hpp hpa hpr hck
      rw [show L (S s) = s from rfl, hps] at hpa
      have HPP : Hid (∀ W, BRow W (.slice ae e.data.length ce) e.data → Calls Tryd.prog 12 #[evV e (.slice ae e.data.length ce)] W fun r w' => r = .returned (.tuple #[.string (S s), .bool true]) ∧ Below W.heap.size W w') := Lib.hid fun W h => (hpp.out W h).mono fun _ _ ⟨a, b⟩ => ⟨by rw [a, hp]; rfl, b⟩
      have HPA : Hid (∀ W, Calls Tryd.prog 13 #[.string (S s)] W fun r w' => ∃ a c, r = .returned (.tuple #[evV e (.slice a e.data.length c), .int .i64 0]) ∧ BRow w' (.slice a e.data.length c) e.data ∧ Below W.heap.size W w') := Lib.hid fun W => (hpa.out W).mono fun _ _ ⟨dv, a, b, _, c⟩ => by
        obtain ⟨da, dc, rfl⟩ := crow_form b
        exact ⟨da, dc, a, b.row, c⟩
      clear hpp hpa hp hps hpb
      generalize S s = sv at *
      go_enter Tryd.func4, Tryd.ntmps4
      go_wp2_with fail
      refine hlg'.out.mono ?_
      rintro r w3 ⟨rfl, rfl⟩
      clear hlg'
      generalize ((w.alloc (.cells #[.int .i64 e.kind, .int .i64 e.session, .int .i64 e.stream, .string e.tenant, .int .u64 (e.n : Int), .int .i64 e.m, .int .u64 (e.bits : Int), .slice ae e.data.length ce] 31)).alloc (.cells #[.int .i64 o.kind, .int .i64 o.session, .int .i64 o.stream, .string o.tenant, .int .u64 (o.n : Int), .int .i64 o.m, .int .u64 (o.bits : Int), .slice ao o.data.length co] 31)).alloc (.cells #[.int .i64 e.kind, .int .i64 e.session, .int .i64 e.stream, .string e.tenant, .int .u64 (e.n : Int), .int .i64 e.m, .int .u64 (e.bits : Int), .slice ae e.data.length ce, .int .i64 o.kind, .int .i64 o.session, .int .i64 o.stream, .string o.tenant, .int .u64 (o.n : Int), .int .i64 o.m, .int .u64 (o.bits : Int), .slice ao o.data.length co] 31) = w2 at *
      obtain ⟨⟨x0, x1, x2, x3, x4, x5, x6, x7, xf⟩, ⟨y0, y1, y2, y3, y4, y5, y6, y7, yf⟩⟩ := X.out
      clear xf yf
      go_wp2_with fail
      refine (HPP.out _ (brow_below B.out HE.out.1)).mono ?_
      rintro r w3 ⟨rfl, hb3⟩
      have X2 := X
      have B2 := B
      clear X B
      have X3 := Lib.hid (And.intro (C8.below X2.out.1 hb3) (C8.below X2.out.2 hb3))
      have B3 := Lib.hid (bt B2.out hb3)
      clear x0 x1 x2 x3 x4 x5 x6 x7 y0 y1 y2 y3 y4 y5 y6 y7
      obtain ⟨⟨x0, x1, x2, x3, x4, x5, x6, x7, xf⟩, ⟨y0, y1, y2, y3, y4, y5, y6, y7, yf⟩⟩ := X3.out
      clear xf yf hb3 X2 B2
      go_wp2_with fail
      refine (HPA.out _).mono ?_
      rintro r w4' ⟨a4, c4, rfl, hr4, hb4'⟩
      have X4' := Lib.hid (And.intro (C8.below X3.out.1 hb4') (C8.below X3.out.2 hb4'))
      clear x0 x1 x2 x3 x4 x5 x6 x7 y0 y1 y2 y3 y4 y5 y6 y7
      obtain ⟨⟨x0, x1, x2, x3, x4, x5, x6, x7, xf⟩, ⟨y0, y1, y2, y3, y4, y5, y6, y7, yf⟩⟩ := X4'.out
      clear xf yf
      have l0 : w.heap.size < w4'.heap.size := X4'.out.1.lt
      have l1 : w.heap.size + 1 < w4'.heap.size := X4'.out.2.lt
      have n0 := Nat.ne_of_lt l0
      have n1 := Nat.ne_of_lt l1
      have t1 : (sv.toList != sv.toList) = false := by simp
      go_wp2_with fail
      have hba : Below w4'.heap.size w4' (w4'.alloc (.cells #[.int .i64 e.kind, .int .i64 e.session, .int .i64 e.stream, .string e.tenant, .int .u64 (e.n : Int), .int .i64 e.m, .int .u64 (e.bits : Int), .slice a4 e.data.length c4] 31)) := (Below.refl _ _).alloc (Nat.le_refl _) _
      have hb4 := bt hb4' hba
      have Y4 := Lib.hid (C8.new w4' (.int .i64 e.kind) (.int .i64 e.session) (.int .i64 e.stream) (.string e.tenant) (.int .u64 (e.n : Int)) (.int .i64 e.m) (.int .u64 (e.bits : Int)) (.slice a4 e.data.length c4) 31)
      have R4 := Lib.hid (brow_below hba hr4)
      clear hr4 hba hb4'
      generalize w4'.alloc (.cells #[.int .i64 e.kind, .int .i64 e.session, .int .i64 e.stream, .string e.tenant, .int .u64 (e.n : Int), .int .i64 e.m, .int .u64 (e.bits : Int), .slice a4 e.data.length c4] 31) = w4 at *
      generalize w4'.heap.size = k7 at *
      obtain ⟨z0, z1, z2, z3, z4, z5, z6, z7, zf⟩ := Y4.out
      clear zf X4' l0 l1 n0 n1
      have X4 := Lib.hid (And.intro (C8.below X3.out.1 hb4) (C8.below X3.out.2 hb4))
      have B4 := Lib.hid (bt B3.out hb4)
      clear x0 x1 x2 x3 x4 x5 x6 x7 y0 y1 y2 y3 y4 y5 y6 y7
      obtain ⟨⟨x0, x1, x2, x3, x4, x5, x6, x7, xf⟩, ⟨y0, y1, y2, y3, y4, y5, y6, y7, yf⟩⟩ := X4.out
      clear xf yf hb4 X3 B3
      refine (hpr.out _ (brow_below B4.out HE.out.1) (tab_keep HT.out B4.out)).mono ?_
      rintro r w5 ⟨rfl, hb5⟩
      have X5 := Lib.hid (And.intro (C8.below X4.out.1 hb5) (C8.below X4.out.2 hb5))
      have B5 := Lib.hid (bt B4.out hb5)
      have Y5 := Lib.hid (Y4.out.below hb5)
      have R5 := Lib.hid (brow_below hb5 R4.out)
      clear z0 z1 z2 z3 z4 z5 z6 z7 Y4 R4
      obtain ⟨z0, z1, z2, z3, z4, z5, z6, z7, zf⟩ := Y5.out
      clear zf
      clear x0 x1 x2 x3 x4 x5 x6 x7 y0 y1 y2 y3 y4 y5 y6 y7
      obtain ⟨⟨x0, x1, x2, x3, x4, x5, x6, x7, xf⟩, ⟨y0, y1, y2, y3, y4, y5, y6, y7, yf⟩⟩ := X5.out
      clear xf yf hb5 X4 B4
      go_wp2_with fail
      refine (hck.out _ (brow_below B5.out HE.out.1) (tab_keep HT.out B5.out)).mono ?_
      rintro r w6 ⟨rfl, hb6⟩
      have X6 := Lib.hid (And.intro (C8.below X5.out.1 hb6) (C8.below X5.out.2 hb6))
      have B6 := Lib.hid (bt B5.out hb6)
      have Y6 := Lib.hid (Y5.out.below hb6)
      have R6 := Lib.hid (brow_below hb6 R5.out)
      clear z0 z1 z2 z3 z4 z5 z6 z7 Y5 R5
      obtain ⟨z0, z1, z2, z3, z4, z5, z6, z7, zf⟩ := Y6.out
      clear zf
      clear x0 x1 x2 x3 x4 x5 x6 x7 y0 y1 y2 y3 y4 y5 y6 y7
      obtain ⟨⟨x0, x1, x2, x3, x4, x5, x6, x7, xf⟩, ⟨y0, y1, y2, y3, y4, y5, y6, y7, yf⟩⟩ := X6.out
      clear xf yf hb6 X5 B5
      have hse0 : sameB e e = true := (sameB_iff e e).2 rfl
      have h16e := hS16e.out w6 (.slice a4 e.data.length c4) (.slice ae e.data.length ce) R6.out (brow_below B6.out HE.out.1)
      rw [hse0] at h16e
      have H16e := Lib.hid h16e
      clear hse0 h16e
      go_wp2_with fail
      refine H16e.out.mono ?_
      rintro r w7 ⟨rfl, hb7⟩
      have X7 := Lib.hid (And.intro (C8.below X6.out.1 hb7) (C8.below X6.out.2 hb7))
      have B7 := Lib.hid (bt B6.out hb7)
      have Y7 := Lib.hid (Y6.out.below hb7)
      have R7 := Lib.hid (brow_below hb7 R6.out)
      clear z0 z1 z2 z3 z4 z5 z6 z7 Y6 R6
      obtain ⟨z0, z1, z2, z3, z4, z5, z6, z7, zf⟩ := Y7.out
      clear zf
      clear x0 x1 x2 x3 x4 x5 x6 x7 y0 y1 y2 y3 y4 y5 y6 y7
      obtain ⟨⟨x0, x1, x2, x3, x4, x5, x6, x7, xf⟩, ⟨y0, y1, y2, y3, y4, y5, y6, y7, yf⟩⟩ := X7.out
      clear xf yf hb7 X6 B6
      go_wp2_with fail
      clear z0 z1 z2 z3 z4 z5 z6 z7 Y7 R7 H16e hck hpr HPA HPP t1
      obtain ⟨sb, hsb⟩ : ∃ sb, sameB e o = sb := ⟨_, rfl⟩
      have hse : sameB e e = true := (sameB_iff e e).2 rfl
      have h16 := hS16.out
      have h17 := hS17.out
      have h17e := hS17e.out
      rw [hsb] at h16 h17
      rw [hse] at h17e
      have H16 : Hid (∀ W, BRow W (.slice ae e.data.length ce) e.data → BRow W (.slice ao o.data.length co) o.data → Calls Tryd.prog 16 #[evV e (.slice ae e.data.length ce), evV o (.slice ao o.data.length co)] W fun r w' => r = .returned (.bool sb) ∧ Below W.heap.size W w') := Lib.hid fun W h1 h2 => h16 W _ _ h1 h2
      have H17 : Hid (∀ W, BRow W (.slice ae e.data.length ce) e.data → BRow W (.slice ao o.data.length co) o.data → Calls Tryd.prog 17 #[evV e (.slice ae e.data.length ce), evV o (.slice ao o.data.length co)] W fun r w' => r = .returned (.bool sb) ∧ Below W.heap.size W w') := Lib.hid fun W h1 h2 => h17 W _ _ h1 h2
      have H17e : Hid (∀ W, BRow W (.slice ae e.data.length ce) e.data → Calls Tryd.prog 17 #[evV e (.slice ae e.data.length ce), evV e (.slice ae e.data.length ce)] W fun r w' => r = .returned (.bool true) ∧ Below W.heap.size W w') := Lib.hid fun W h1 => h17e W _ _ h1 h1
      clear hsb hse h16 h17 h17e hS16 hS17 hS17e hS16e
      have hb : Below w7.heap.size w7 w7.drew := (Below.refl _ _).drew
      cases sb
      all_goals
        go_region_held3 (fun w' => w'.cell? ⟨w.heap.size, 0, none⟩ = some (.int .i64 e.kind) ∧ w'.cell? ⟨w.heap.size, 1, none⟩ = some (.int .i64 e.session) ∧ w'.cell? ⟨w.heap.size, 2, none⟩ = some (.int .i64 e.stream) ∧ w'.cell? ⟨w.heap.size, 3, none⟩ = some (.string e.tenant) ∧ w'.cell? ⟨w.heap.size, 4, none⟩ = some (.int .u64 (e.n : Int)) ∧ w'.cell? ⟨w.heap.size, 5, none⟩ = some (.int .i64 e.m) ∧ w'.cell? ⟨w.heap.size, 6, none⟩ = some (.int .u64 (e.bits : Int)) ∧ w'.cell? ⟨w.heap.size, 7, none⟩ = some (.slice ae e.data.length ce) ∧ w'.cell? ⟨w.heap.size + 1, 0, none⟩ = some (.int .i64 o.kind) ∧ w'.cell? ⟨w.heap.size + 1, 1, none⟩ = some (.int .i64 o.session) ∧ w'.cell? ⟨w.heap.size + 1, 2, none⟩ = some (.int .i64 o.stream) ∧ w'.cell? ⟨w.heap.size + 1, 3, none⟩ = some (.string o.tenant) ∧ w'.cell? ⟨w.heap.size + 1, 4, none⟩ = some (.int .u64 (o.n : Int)) ∧ w'.cell? ⟨w.heap.size + 1, 5, none⟩ = some (.int .i64 o.m) ∧ w'.cell? ⟨w.heap.size + 1, 6, none⟩ = some (.int .u64 (o.bits : Int)) ∧ w'.cell? ⟨w.heap.size + 1, 7, none⟩ = some (.slice ao o.data.length co))
          (first | go_keep | exact ⟨keep_c hb x0, keep_c hb x1, keep_c hb x2, keep_c hb x3, keep_c hb x4, keep_c hb x5, keep_c hb x6, keep_c hb x7, keep_c hb y0, keep_c hb y1, keep_c hb y2, keep_c hb y3, keep_c hb y4, keep_c hb y5, keep_c hb y6, keep_c hb y7⟩)
          (first
            | (go_at_call 16; (with_reducible refine (H16.out _ (by exact brow_below (bt B7.out hb) HE.out.1) (by exact brow_below (bt B7.out hb) HE.out.2)).mono ?_); rintro r w9 ⟨rfl, hb9⟩; have hb := bt hb hb9; clear hb9)
            | (go_at_call 17; (with_reducible refine (H17.out _ (by exact brow_below (bt B7.out hb) HE.out.1) (by exact brow_below (bt B7.out hb) HE.out.2)).mono ?_); rintro r w9 ⟨rfl, hb9⟩; have hb := bt hb hb9; clear hb9)
            | (go_at_call 17; (with_reducible refine (H17e.out _ (by exact brow_below (bt B7.out hb) HE.out.1)).mono ?_); rintro r w9 ⟨rfl, hb9⟩; have hb := bt hb hb9; clear hb9)
            | (go_at_call 11; (with_reducible refine (HA.out _ (by exact tab_keep HT.out (bt B7.out hb))).mono ?_); rintro r w9 ⟨rfl, hb9⟩; have hb := bt hb hb9; clear hb9))
        all_goals
          go_wp2
          go_ret
          exact ⟨rfl, bt B7.out hb⟩
  · clear hlgv
    rw [hw2, hw1, hw0] at hlg'
    rw [hw2, hw1, hw0] at B
    clear X Z hw2 hw1 hw0
    go_enter Tryd.func4, Tryd.ntmps4
    go_wp2_with (first | (go_at_call 10; refine hlg'.out.mono ?_; rintro r w3 ⟨rfl, rfl⟩) | (go_at_call 11; refine (HA.out _ (tab_keep HT.out B.out)).mono ?_; rintro r w4 ⟨rfl, hb4⟩; have X4 := Lib.hid hb4; clear hb4))
    go_ret
    exact ⟨rfl, bt B.out X4.out⟩
end Go.Proofs.YtinabbdecmjcpaaDoor.Script
