/- The walk of QueueDoes at a list of steps that is not empty and not large. -/
import Derived.Test.YtinabbdecmjcpaaRefDo2
import Derived.Deep.RegionHeld3
import Derived.Deep.DrawnRows
namespace Go.Proofs.Ytinabbdecmjcpaa.queueDoes
open Go.RowKit Go.Proofs.Ytinabbdecmjcpaa Go.Proofs.Ytinabbdecmjcpaa.Plain Go.Proofs.Ytinabbdecmjcpaa.Words Go.Proofs.Ytinabbdecmjcpaa.Hex Go.Proofs.Ytinabbdecmjcpaa.Queue
set_option linter.unusedVariables false

theorem step_bd (k n : Int) (l q : List UInt8) (c g : Int) (hq : q.length ≤ 64) (m : Int) (hc0 : 0 ≤ c) (hc : c ≤ 64 * m) (hg0 : 0 ≤ g) (hg : g ≤ 64 * m) :
    (Queue.step k n l q c g).q.length ≤ 64 ∧ 0 ≤ (Queue.step k n l q c g).came ∧ (Queue.step k n l q c g).came ≤ 64 * (m + 1) ∧ 0 ≤ (Queue.step k n l q c g).went ∧ (Queue.step k n l q c g).went ≤ 64 * (m + 1) ∧ (Queue.step k n l q c g).out.length ≤ 64 ∧ (0 ≤ (Queue.step k n l q c g).num ∧ (Queue.step k n l q c g).num ≤ 64) := by
  have ht := took_le n q.length
  unfold Queue.step
  split
  · split
    · simp; omega
    · simp; omega
  · split
    · simp; omega
    · split
      · simp; omega
      · split
        · simp; omega
        · simp; omega

theorem len_is {w : World} {b : Nat} {q : List UInt8} {c g : Int} (h : QIs w b q c g) : Calls Try.prog 25 #[.pointer (some ⟨b, 0, none⟩)] w fun e w' => e = .returned (.int .i64 (q.length : Int)) ∧ w = w' := by obtain ⟨r, f, h, _⟩ := h; exact len_any h
theorem room_is {w : World} {b : Nat} {q : List UInt8} {c g : Int} (h : QIs w b q c g) : Calls Try.prog 26 #[.pointer (some ⟨b, 0, none⟩)] w fun e w' => e = .returned (.int .i64 (64 - (q.length : Int))) ∧ w = w' := by obtain ⟨r, f, h, _⟩ := h; exact room_any h
theorem came_is {w : World} {b : Nat} {q : List UInt8} {c g : Int} (h : QIs w b q c g) : Calls Try.prog 27 #[.pointer (some ⟨b, 0, none⟩)] w fun e w' => e = .returned (.int .u64 c) ∧ w = w' := by obtain ⟨r, f, h, _⟩ := h; exact came_any h
theorem went_is {w : World} {b : Nat} {q : List UInt8} {c g : Int} (h : QIs w b q c g) : Calls Try.prog 28 #[.pointer (some ⟨b, 0, none⟩)] w fun e w' => e = .returned (.int .u64 g) ∧ w = w' := by obtain ⟨r, f, h, _⟩ := h; exact went_any h
theorem undrew {B : Nat} {w w1 : World} (h : Below B w.drew w1) : Below B w w1 := ⟨h.os, h.tape, h.output, h.size, h.block⟩
theorem keep3 {W w1 : World} {x : Nat} {a b c : Value} (hb : Below W.heap.size W w1) (h0 : W.cell? ⟨x, 0, none⟩ = some a) (h1 : W.cell? ⟨x, 1, none⟩ = some b) (h2 : W.cell? ⟨x, 2, none⟩ = some c) : w1.cell? ⟨x, 0, none⟩ = some a ∧ w1.cell? ⟨x, 1, none⟩ = some b ∧ w1.cell? ⟨x, 2, none⟩ = some c := by
  have l := World.block_lt_of_cell? _ _ h0
  exact ⟨(hb.cell (p := ⟨x, 0, none⟩) l).trans h0, (hb.cell (p := ⟨x, 1, none⟩) l).trans h1, (hb.cell (p := ⟨x, 2, none⟩) l).trans h2⟩

/-- What the loop keeps. -/
def Rel (w : World) (b x len : Nat) (i : Value) (wr : World) : Prop :=
  ∃ (k : Nat) (q : List UInt8) (vB : Value) (c g : Int), k ≤ len ∧ i = .int .i64 k ∧ QIs wr b q c g ∧ RQ wr x vB q c g ∧ Off vB b ∧ 0 ≤ c ∧ c ≤ 64 * (k : Int) ∧ 0 ≤ g ∧ g ≤ 64 * (k : Int) ∧ Below w.heap.size w wr

theorem brow_len {w : World} {a : Option Addr} {n cap : Nat} {l : List UInt8} (h : BRow w (.slice a n cap) l) : n = l.length := by
  obtain ⟨a', cap', e⟩ := brow_form h
  simp only [Value.slice.injEq] at e
  exact e.2.1

set_option maxRecDepth 100000 in
set_option maxHeartbeats 2000000 in
theorem walk_more (gl ol cap len : Nat) (w : World) (h0 : 0 < len) (hl0 : len ≤ maxLen) (hg : gl < w.heap.size) (hst : ∀ i, i < len → ∃ k n dv l, StepAt w gl ol i k n dv l) :
    Calls Try.prog 5 #[.slice (some ⟨gl, ol, none⟩) len cap] w fun e w' => e = .returned (.bool true) ∧ Below w.heap.size w w' := by
  have HL := Lib.hid (large_more gl ol cap h0 hl0 hst)
  have HS0 := Lib.hid hst
  clear hst hl0
  go_enter Try.func5, Try.ntmps5
  go_wp2_with fail
  refine HL.out.mono ?_
  rintro e w' ⟨bb, rfl, rfl, hbb⟩
  cases bb
  rotate_left
  · clear hbb
    go_wp2_with fail
    refine (awake25 _).mono ?_
    rintro e w2 ⟨rfl, hb2⟩
    go_wp2
    go_ret
    exact ⟨rfl, hb2⟩
  obtain ⟨hl, hdata⟩ := hbb rfl
  have HS : Hid (∀ i, i < len → ∃ k n dv l, StepAt w gl ol i k n dv l ∧ l.length ≤ 200) := Lib.hid (fun i hi => by
    obtain ⟨k, n, dv, l, hs⟩ := HS0.out i hi
    exact ⟨k, n, dv, l, hs, hdata gl ol cap rfl i hi k n dv l hs⟩)
  clear hbb hdata
  go_wp2_with fail
  refine (new_any w).mono ?_
  rintro e w1 ⟨rfl, hq, hb1⟩
  have hlt := hq.lt
  have hz1 := hb1.size
  have HQ := Lib.hid hq
  clear hq
  go_wp2_with fail
  have hq2 : QIs (w1.alloc (.cells #[.slice none 0 0, .int .u64 0, .int .u64 0] 44)) w.heap.size [] 0 0 := ⟨_, _, HQ.out.below ((Below.refl _ _).alloc (Nat.le_refl _) _), rfl⟩
  have hr2 : RQ (w1.alloc (.cells #[.slice none 0 0, .int .u64 0, .int .u64 0] 44)) w1.heap.size (.slice none 0 0) [] 0 0 := by
    exact ⟨World.cell?_alloc_at _ _ _ _ rfl, World.cell?_alloc_at _ _ _ _ rfl, World.cell?_alloc_at _ _ _ _ rfl, World.frozen?_alloc_at _ _ _ _ rfl, World.frozen?_alloc_at _ _ _ _ rfl, World.frozen?_alloc_at _ _ _ _ rfl, .inl ⟨rfl, none, 0, rfl, (fun _ => rfl), Nat.zero_le _⟩, by simp, fun g o len cap e => by cases e⟩
  have hb2 : Below w.heap.size w (w1.alloc (.cells #[.slice none 0 0, .int .u64 0, .int .u64 0] 44)) := hb1.alloc hz1 _
  go_loopw [5] (fun i wr => Rel w w.heap.size w1.heap.size len i wr) (fun i _ => len - (intOf i).toNat)
  case atStart => exact ⟨0, [], _, 0, 0, by omega, rfl, hq2, hr2, (fun g o len cap e => by cases e), by omega, by omega, by omega, by omega, hb2⟩
  case round =>
    clear hq2 hr2 hb2
    obtain ⟨k, q, vB, c, g, hk, rfl, hq, hr, hof, hc0, hc1, hg0, hg1, hbel⟩ := hrel
    have hsz := hbel.size
    have HQ := Lib.hid hq
    have HR := Lib.hid hr
    have HF := Lib.hid hof
    have hrl := hr.lt
    have hql := hq.len
    clear hq hr hof
    by_cases hkl : k < len
    · obtain ⟨kk, n, dv, l, hs, hl2⟩ := HS.out k hkl
      have a0 := (hbel.cell (p := ⟨gl, ol + k * 3, none⟩) hg).trans hs.c0
      have a1 := (hbel.cell (p := ⟨gl, ol + k * 3 + 1, none⟩) hg).trans hs.c1
      have a2 := (hbel.cell (p := ⟨gl, ol + k * 3 + 2, none⟩) hg).trans hs.c2
      have hrow : CRow wr dv l := crow_below hs.row hbel
      have ho1 := hs.off w.heap.size (Nat.le_refl _)
      have ho2 := hs.off w1.heap.size hz1
      obtain ⟨ad, cd, hdv⟩ := crow_form hrow
      have HROW := Lib.hid hrow
      have HO1 := Lib.hid ho1
      have HO2 := Lib.hid ho2
      clear hs hrow ho1 ho2
      rw [hdv] at a2
      have HDV := Lib.hid hdv
      clear hdv
      have bd := step_bd kk n l q c g hql k hc0 hc1 hg0 hg1
      obtain ⟨t, ht⟩ : ∃ t, t = Queue.step kk n l q c g := ⟨_, rfl⟩
      rw [← ht] at bd
      obtain ⟨d1, d2, d3, d4, d5, d6, d7, d8⟩ := bd
      have HT := Lib.hid ht
      clear ht
      go_wp2_with fail
      refine (do_any kk n l _ HQ.out (HDV.out ▸ HROW.out).row (HDV.out ▸ HO1.out) hc0 (by omega) hg0 (by omega)).mono ?_
      rintro e w3 ⟨v, rfl, hv3, hq3, hch3⟩
      rw [← HT.out] at hv3 hq3 ⊢
      have hs3 := hch3.size
      have hr3 : RQ w3 w1.heap.size vB q c g := HR.out.chg hch3 (by simp; omega) (by simpa using HF.out)
      have hrow3 : CRow w3 (.slice ad l.length cd) l := crow_chg (HDV.out ▸ HROW.out) hch3 (by simpa using (HDV.out ▸ HO1.out))
      have e0 := (hch3.cell (p := ⟨gl, ol + k * 3, none⟩) (by show gl < wr.heap.size; omega) (by simp; omega)).trans a0
      have e1 := (hch3.cell (p := ⟨gl, ol + k * 3 + 1, none⟩) (by show gl < wr.heap.size; omega) (by simp; omega)).trans a1
      have e2 := (hch3.cell (p := ⟨gl, ol + k * 3 + 2, none⟩) (by show gl < wr.heap.size; omega) (by simp; omega)).trans a2
      have HV3 := Lib.hid hv3
      have HQ3 := Lib.hid hq3
      have HR3 := Lib.hid hr3
      have HROW3 := Lib.hid hrow3
      clear hv3 hq3 hr3 hrow3 a0 a1 a2
      go_wp2_with fail
      refine (rdo_any kk n l _ HR3.out HROW3.out hl2 (HDV.out ▸ HO2.out) hc0 (by omega) hg0 (by omega)).mono ?_
      rintro e w4 ⟨v', vB', rfl, hv4, hr4, hof4, hch4⟩
      rw [← HT.out] at hv4 hr4 ⊢
      have hs4 := hch4.size
      have hq4 : QIs w4 w.heap.size t.q t.came t.went := HQ3.out.chg hch4 (by simp; omega)
      have hrowv : BRow w4 v t.out := brow_chg (bys_row HV3.out) hch4 (by simpa using bys_off HV3.out hrl)
      have hoB : Off vB' w.heap.size := hof4 _ (by omega) HF.out
      obtain ⟨aB, cB, hvB⟩ := crow_form hr4.row
      have g0 := hr4.c0
      have g1 := hr4.c1
      have g2 := hr4.c2
      rw [hvB] at g0
      have HQ4 := Lib.hid hq4
      have HR4 := Lib.hid hr4
      have HV4 := Lib.hid hv4
      have HRV := Lib.hid hrowv
      have HOB := Lib.hid hoB
      have hbel4 : Below w.heap.size w w4 := (hbel.trans (hch3.below (by omega) (by simp))).trans (hch4.below (by omega) (by simp; omega))
      clear hq4 hr4 hv4 hrowv hoB hvB hof4 e0 e1 e2
      have hwr : IntKind.i64.wrap (64 - (t.q.length : Int)) = 64 - (t.q.length : Int) := IntWalk.i64_in _ (by omega)
      have n0 := World.new_ne w4 ⟨w1.heap.size, 0, none⟩ g0
      go_wp2_with fail
      go_region_held3 (fun w' => w'.cell? ⟨w1.heap.size, 0, none⟩ = some (.slice aB t.q.length cB) ∧ w'.cell? ⟨w1.heap.size, 1, none⟩ = some (.int .u64 t.came) ∧ w'.cell? ⟨w1.heap.size, 2, none⟩ = some (.int .u64 t.went))
        (go_keep)
        (first
          | (go_at_call 15; refine (same_any t.out t.out _ _ _ (by omega) (by omega) (by exact HRV.out) (by exact HV4.out.row)).mono ?_; rintro e w5 ⟨rfl, hb5⟩; rw [decide_eq_true (rfl : t.out = t.out)]; obtain ⟨p0, p1, p2⟩ := keep3 hb5 g0 g1 g2; have HQ5 := Lib.hid (HQ4.out.below (undrew hb5)))
          | (go_at_call 25; refine (len_is HQ5.out).mono ?_; rintro e w' ⟨rfl, rfl⟩)
          | (go_at_call 26; refine (room_is HQ5.out).mono ?_; rintro e w' ⟨rfl, rfl⟩)
          | (go_at_call 27; refine (came_is HQ5.out).mono ?_; rintro e w' ⟨rfl, rfl⟩)
          | (go_at_call 28; refine (went_is HQ5.out).mono ?_; rintro e w' ⟨rfl, rfl⟩))
      all_goals
        clear hwr
        go_wp2
        go_roundw
        case rel =>
          have hb6 := undrew hb5
          exact ⟨k + 1, t.q, vB', t.came, t.went, by omega, by go_num, HQ5.out, HR4.out.below hb6, HOB.out, d2, by omega, d4, by omega, hbel4.trans (hb6.mono hbel4.size)⟩
        case measure => simp [intOf]; omega
    · go_wp2_with fail
      refine (awake25 _).mono ?_
      rintro e w2 ⟨rfl, hb2⟩
      go_wp2
      go_ret
      exact ⟨rfl, hbel.trans (hb2.mono hsz)⟩
end Go.Proofs.Ytinabbdecmjcpaa.queueDoes
