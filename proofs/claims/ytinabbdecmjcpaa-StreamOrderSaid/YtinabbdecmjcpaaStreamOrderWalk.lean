/- The walk of StreamOrder. -/
import Derived.Test.YtinabbdecmjcpaaStreamMem
namespace Go.Proofs.Ytinabbdecmjcpaa.streamOrder
open Go.RowKit Go.Proofs.Ytinabbdecmjcpaa Go.Proofs.Ytinabbdecmjcpaa.Plain Go.Proofs.Ytinabbdecmjcpaa.Words Go.Proofs.Ytinabbdecmjcpaa.Named Go.Proofs.Ytinabbdecmjcpaa.Hex Go.Proofs.Ytinabbdecmjcpaa.Queue Go.Proofs.Ytinabbdecmjcpaa.Stream
set_option linter.unusedVariables false

/-- What is known of a step of the list. -/
def StepsAt (w : World) (a : Option Addr) (len : Nat) : Prop := ∀ i, i < len → ∃ gl ol k n dv l, a = some ⟨gl, ol, none⟩ ∧ gl < w.heap.size ∧ StepAt w gl ol i k n dv l ∧ l.length ≤ 200

section
variable {w W : World} {s b0 b1 N len k : Nat} {tgt : ByteArray} {g i : Value} {up dn l : List UInt8} {vs : Nat → Value} {ls : Nat → List UInt8} {cr : Int} {en : Bool} {m : Nat} {v' : Value}
theorem rel_same (hk : k < len) (hi : i = .int .i64 ((k + 1 : Nat) : Int)) (hg : g = .int .i64 (cr + (ls 3).length)) (hs : SIs W s b0 b1 tgt ⟨up, dn, (ls 0).length, (ls 2).length, (ls 1).length, (ls 3).length, cr, en⟩) (hm : Mem W N vs ls) (h0 : ls 0 = ls 2 ++ up) (h1 : ls 1 = ls 3 ++ dn) (c0 : (ls 0).length ≤ 64 * k) (c1 : (ls 1).length ≤ 64 * k) (hb : Below w.heap.size w W) : Rel w s b0 b1 N len tgt g i W :=
  ⟨k + 1, up, dn, vs, ls, cr, en, by omega, hi, hg, hs, hm, h0, h1, by omega, by omega, hb⟩
theorem rel_in0 (hk : k < len) (hi : i = .int .i64 ((k + 1 : Nat) : Int)) (hg : g = .int .i64 (cr + (ls 3).length)) (hs : SIs W s b0 b1 tgt ⟨up ++ l, dn, (ls 0).length + l.length, (ls 2).length, (ls 1).length, (ls 3).length, cr, en⟩) (hm : Mem W N (upd vs 0 v') (upd ls 0 (ls 0 ++ l))) (h0 : ls 0 = ls 2 ++ up) (h1 : ls 1 = ls 3 ++ dn) (hf : up.length + l.length ≤ 64) (c0 : (ls 0).length ≤ 64 * k) (c1 : (ls 1).length ≤ 64 * k) (hb : Below w.heap.size w W) : Rel w s b0 b1 N len tgt g i W :=
  ⟨k + 1, up ++ l, dn, upd vs 0 v', upd ls 0 (ls 0 ++ l), cr, en, by omega, hi, by simpa [upd] using hg, by simpa [upd] using hs, hm, by simp [upd, h0], by simpa [upd] using h1, by simp [upd]; omega, by simp [upd]; omega, hb⟩
theorem rel_in1 (hk : k < len) (hi : i = .int .i64 ((k + 1 : Nat) : Int)) (hg : g = .int .i64 (cr + (ls 3).length)) (hs : SIs W s b0 b1 tgt ⟨up, dn ++ l, (ls 0).length, (ls 2).length, (ls 1).length + l.length, (ls 3).length, cr, en⟩) (hm : Mem W N (upd vs 1 v') (upd ls 1 (ls 1 ++ l))) (h0 : ls 0 = ls 2 ++ up) (h1 : ls 1 = ls 3 ++ dn) (hf : dn.length + l.length ≤ 64) (c0 : (ls 0).length ≤ 64 * k) (c1 : (ls 1).length ≤ 64 * k) (hb : Below w.heap.size w W) : Rel w s b0 b1 N len tgt g i W :=
  ⟨k + 1, up, dn ++ l, upd vs 1 v', upd ls 1 (ls 1 ++ l), cr, en, by omega, hi, by simpa [upd] using hg, by simpa [upd] using hs, hm, by simpa [upd] using h0, by simp [upd, h1], by simp [upd]; omega, by simp [upd]; omega, hb⟩
theorem rel_out0 (hk : k < len) (hi : i = .int .i64 ((k + 1 : Nat) : Int)) (hg : g = .int .i64 (cr + (ls 3).length)) (hs : SIs W s b0 b1 tgt ⟨up.drop m, dn, (ls 0).length, (ls 2).length + (m : Nat), (ls 1).length, (ls 3).length, cr, en⟩) {tk : List UInt8} (htk : up.take m = tk) (hm : Mem W N (upd vs 2 v') (upd ls 2 (ls 2 ++ tk))) (h0 : ls 0 = ls 2 ++ up) (h1 : ls 1 = ls 3 ++ dn) (hf : m ≤ up.length) (c0 : (ls 0).length ≤ 64 * k) (c1 : (ls 1).length ≤ 64 * k) (hb : Below w.heap.size w W) : Rel w s b0 b1 N len tgt g i W := by
  subst htk
  have e : (upd ls 2 (ls 2 ++ up.take m) 2).length = (ls 2).length + m := by simp [upd]; omega
  refine ⟨k + 1, up.drop m, dn, upd vs 2 v', upd ls 2 (ls 2 ++ up.take m), cr, en, by omega, hi, by simpa [upd] using hg, ?_, hm, by simp [upd, h0], by simpa [upd] using h1, by simp [upd]; omega, by simp [upd]; omega, hb⟩
  rw [e]
  simpa [upd] using hs
theorem rel_out1 (hk : k < len) (hi : i = .int .i64 ((k + 1 : Nat) : Int)) (hg : g = .int .i64 (cr + (ls 3).length)) (hs : SIs W s b0 b1 tgt ⟨up, dn.drop m, (ls 0).length, (ls 2).length, (ls 1).length, (ls 3).length + (m : Nat), cr - (m : Nat), en⟩) {tk : List UInt8} (htk : dn.take m = tk) (hm : Mem W N (upd vs 3 v') (upd ls 3 (ls 3 ++ tk))) (h0 : ls 0 = ls 2 ++ up) (h1 : ls 1 = ls 3 ++ dn) (hf : m ≤ dn.length) (c0 : (ls 0).length ≤ 64 * k) (c1 : (ls 1).length ≤ 64 * k) (hb : Below w.heap.size w W) : Rel w s b0 b1 N len tgt g i W := by
  subst htk
  have e : (upd ls 3 (ls 3 ++ dn.take m) 3).length = (ls 3).length + m := by simp [upd]; omega
  refine ⟨k + 1, up, dn.drop m, upd vs 3 v', upd ls 3 (ls 3 ++ dn.take m), cr - m, en, by omega, hi, ?_, ?_, hm, by simpa [upd] using h0, by simp [upd, h1], by simp [upd]; omega, by simp [upd]; omega, hb⟩
  · rw [e, hg]; congr 1; omega
  rw [e]
  simpa [upd] using hs
end

section
variable {w w1 : World} {N j : Nat} {vs : Nat → Value} {ls : Nat → List UInt8}
theorem keep2 {W w1 : World} {x y i k : Nat} {a b : Value} (hb : Below W.heap.size W w1) (h0 : W.cell? ⟨x, i, none⟩ = some a) (h1 : W.cell? ⟨y, k, none⟩ = some b) : w1.cell? ⟨x, i, none⟩ = some a ∧ w1.cell? ⟨y, k, none⟩ = some b :=
  ⟨(hb.cell (p := ⟨x, i, none⟩) (World.block_lt_of_cell? _ _ h0)).trans h0, (hb.cell (p := ⟨y, k, none⟩) (World.block_lt_of_cell? _ _ h1)).trans h1⟩
theorem grown_at (h : Mem w N vs ls) (hj : j < 4) (hg : w.grownBy w1 (vs j).ownBlock) (i : Nat) (hi : i < 4) : w1.cell? ⟨N + i / 2, i % 2, none⟩ = some (vs i) ∧ w1.frozen? ⟨N + i / 2, i % 2, none⟩ = false := by
  have hlt := h.lt
  have := h.grown_cell hj hg ⟨N + i / 2, i % 2, none⟩ (by show N + i / 2 < N + 2; omega) (by show N + i / 2 < w.heap.size; omega)
  exact ⟨this.1.trans (h.cell i hi), this.2.trans (h.free i hi)⟩
end

set_option maxRecDepth 100000 in
set_option maxHeartbeats 8000000 in
theorem walk_more (a : Option Addr) (cap len : Nat) (w : World) (hl0 : len ≤ maxLen) (hL : Calls Try.prog 31 #[.slice a len cap] w (LargePost (.slice a len cap) len w))
    (hst : ∀ bb, (bb = false → len ≤ 100 ∧ ∀ g o cap', (Value.slice a len cap) = .slice (some ⟨g, o, none⟩) len cap' → ∀ i, i < len → ∀ k n dv l, StepAt w g o i k n dv l → l.length ≤ 200) → bb = false → StepsAt w a len) :
    Calls Try.prog 8 #[.slice a len cap] w fun e w' => e = .returned (.bool true) ∧ Below w.heap.size w w' := by
  have HL := Lib.hid hL
  have HS0 := Lib.hid hst
  clear hst hL
  unfold maxLen at hl0
  go_enter Try.func8, Try.ntmps8
  go_wp2_with fail
  refine HL.out.mono ?_
  rintro e w' ⟨bb, rfl, rfl, hbb⟩
  cases bb
  rotate_left
  · clear hbb
    go_wp2_with (go_at_call 32; refine (awake26 _).mono ?_; rintro e w2 ⟨rfl, hb2⟩)
    go_ret
    exact ⟨rfl, hb2⟩
  have HS : Hid (StepsAt w a len) := Lib.hid (HS0.out false (fun h => hbb h) rfl)
  obtain ⟨hl, _⟩ := hbb rfl
  clear hbb HS0 HL hl0
  go_wp2_with fail
  refine (new_ok ⟨#[97]⟩ w (by decide) (by decide)).mono ?_
  rintro e w1 ⟨s, b0, b1, rfl, hs1, hb0, hb1, hx, hbe1⟩
  have s1 := hbe1.size
  have l0 := hs1.lt
  have l1 := hs1.q0.lt
  have l2 := hs1.q1.lt
  have HS1 := Lib.hid hs1
  clear hs1
  go_wp2_with fail
  have hm := mem_start w1
  have hbw : Below w1.heap.size w1 ((w1.alloc (.cells #[.slice none 0 0, .slice none 0 0] 58)).alloc (.cells #[.slice none 0 0, .slice none 0 0] 58)) := ((Below.refl _ _).alloc (Nat.le_refl _) _).alloc (by simp) _
  have hsi : SIs ((w1.alloc (.cells #[.slice none 0 0, .slice none 0 0] 58)).alloc (.cells #[.slice none 0 0, .slice none 0 0] 58)) s b0 b1 ⟨#[97]⟩ ⟨[], [], 0, 0, 0, 0, 64, false⟩ := HS1.out.below hbw
  have hb2 : Below w.heap.size w ((w1.alloc (.cells #[.slice none 0 0, .slice none 0 0] 58)).alloc (.cells #[.slice none 0 0, .slice none 0 0] 58)) := hbe1.trans (hbw.mono s1)
  have X := Lib.hid (show _ ∧ _ ∧ _ from ⟨hm, hsi, hb2⟩)
  clear hm hsi hb2 hbw HS1 hbe1
  go_loopw [7, 8] (fun g i wr => Rel w s b0 b1 w1.heap.size len ⟨#[97]⟩ g i wr) (fun _ i _ => len - (intOf i).toNat)
  case atStart => exact ⟨0, [], [], (fun _ => .slice none 0 0), (fun _ => []), 64, false, by omega, rfl, rfl, X.out.2.1, X.out.1, rfl, rfl, by simp, by simp, X.out.2.2⟩
  case round =>
    clear X
    obtain ⟨k, up, dn, vs, ls, cr, en, hk, rfl, rfl, hs, hm, hi0, hi1, hc0, hc1, hbel⟩ := hrel
    have hsz := hbel.size
    have hml := hm.lt
    have hcr0 : 0 ≤ cr := hs.cr0
    have hcr1 : cr ≤ 1048576 := hs.cr1
    have hup : up.length ≤ 64 := hs.q0.len
    have hdn : dn.length ≤ 64 := hs.q1.len
    have ol0 : (ls 2).length + up.length = (ls 0).length := by rw [hi0, List.length_append]
    have ol1 : (ls 3).length + dn.length = (ls 1).length := by rw [hi1, List.length_append]
    have HI0 := Lib.hid hi0
    have HI1 := Lib.hid hi1
    have HSI := Lib.hid hs
    have HM := Lib.hid hm
    have h2 : (ls 2).length ≤ (ls 0).length := by omega
    have h3 : (ls 3).length ≤ (ls 1).length := by omega
    have OL0 := Lib.hid ol0
    have OL1 := Lib.hid ol1
    clear hi0 hi1 hs hm ol0 ol1
    by_cases hkl : k < len
    · obtain ⟨gl, ol, kk, n, dv, l, ha, hg, hst, hl2⟩ := HS.out k hkl
      subst ha
      have q0 := (hbel.cell (p := ⟨gl, ol + k * 3, none⟩) hg).trans hst.c0
      have q1 := (hbel.cell (p := ⟨gl, ol + k * 3 + 1, none⟩) hg).trans hst.c1
      have q2 := (hbel.cell (p := ⟨gl, ol + k * 3 + 2, none⟩) hg).trans hst.c2
      have hrow : CRow wr dv l := crow_below hst.row hbel
      have ho0 := hst.off b0 hb0
      have ho1 := hst.off b1 hb1
      have ho2 := hst.off s hx
      obtain ⟨ad, cd, hdv⟩ := crow_form hrow
      rw [hdv] at q2 hrow ho0 ho1 ho2
      have HROW := Lib.hid hrow
      have HO := Lib.hid (show _ ∧ _ ∧ _ from ⟨ho2, ho0, ho1⟩)
      clear hst hdv hrow ho0 ho1 ho2
      have HD0 := Lib.hid (do_at (w := wr) (s := s) (b0 := b0) (b1 := b1) (tgt := ⟨#[97]⟩) kk n l (.slice ad l.length cd) HSI.out HROW.out HO.out.2.1 HO.out.2.2 (by show (0 : Int) ≤ (ls 0).length; omega) (by show ((ls 0).length : Int) ≤ _; omega) (by show (0 : Int) ≤ (ls 1).length; omega) (by show ((ls 1).length : Int) ≤ _; omega) (by show (0 : Int) ≤ (ls 2).length; omega) (by show ((ls 2).length : Int) ≤ _; omega) (by show (0 : Int) ≤ (ls 3).length; omega) (by show ((ls 3).length : Int) ≤ _; omega))
      by_cases k1 : kk = 1
      · subst k1
        by_cases hf : 64 < up.length + l.length
        · have HD : Hid (Calls Try.prog 34 #[.pointer (some ⟨s, 0, none⟩), .agg #[.int .i64 1, .int .i64 n, .slice ad l.length cd]] wr (DoPost s b0 b1 ⟨#[97]⟩ ⟨[], 15, ⟨up, dn, ((ls 0).length : Int), ((ls 2).length : Int), ((ls 1).length : Int), ((ls 3).length : Int), cr, en⟩⟩ wr)) := by
            have := HD0.out
            rw [show sstep 1 n l ⟨up, dn, (ls 0).length, (ls 2).length, (ls 1).length, (ls 3).length, cr, en⟩ = ⟨[], 15, ⟨up, dn, ((ls 0).length : Int), ((ls 2).length : Int), ((ls 1).length : Int), ((ls 3).length : Int), cr, en⟩⟩ by simp [sstep, hf]] at this
            exact Lib.hid this
          clear HD0
          go_wp2_with fail
          refine HD.out.mono ?_
          rintro e w3 ⟨v, rfl, hv3, hs3, hch3⟩
          clear HD
          have s3 := hch3.size
          have e0 := (hch3.cell (p := ⟨gl, ol + k * 3, none⟩) (by show gl < wr.heap.size; omega) (by simp; omega)).trans q0
          have e1 := (hch3.cell (p := ⟨gl, ol + k * 3 + 1, none⟩) (by show gl < wr.heap.size; omega) (by simp; omega)).trans q1
          have e2 := (hch3.cell (p := ⟨gl, ol + k * 3 + 2, none⟩) (by show gl < wr.heap.size; omega) (by simp; omega)).trans q2
          have hbel3 : Below w.heap.size w w3 := hbel.trans (hch3.below (by omega) (by simp; omega))
          have HM3 : Hid (Mem w3 w1.heap.size vs ls) := Lib.hid (HM.out.chg hch3 (by simp; omega))
          have HROW3 : Hid (CRow w3 (.slice ad l.length cd) l) := Lib.hid (crow_chg HROW.out hch3 (by simpa using HO.out))
          have HS3 := Lib.hid hs3
          have HV3 := Lib.hid hv3
          have HB3 := Lib.hid hbel3
          obtain ⟨av, cv, hvv⟩ := brow_form (bys_row HV3.out)
          rw [hvv]
          rw [hvv] at HV3
          clear q0 q1 q2 hs3 hv3 hch3 hvv hbel3 HM HROW HO HSI hbel
          go_wp2_with fail
          go_roundw
          case rel => exact rel_same hkl (by go_num) (rfl) HS3.out HM3.out HI0.out HI1.out hc0 hc1 HB3.out
          case measure => simp [intOf]; omega
        · have HD : Hid (Calls Try.prog 34 #[.pointer (some ⟨s, 0, none⟩), .agg #[.int .i64 1, .int .i64 n, .slice ad l.length cd]] wr (DoPost s b0 b1 ⟨#[97]⟩ ⟨[], 0, ⟨up ++ l, dn, (ls 0).length + l.length, ((ls 2).length : Int), ((ls 1).length : Int), ((ls 3).length : Int), cr, en⟩⟩ wr)) := by
            have := HD0.out
            rw [show sstep 1 n l ⟨up, dn, (ls 0).length, (ls 2).length, (ls 1).length, (ls 3).length, cr, en⟩ = ⟨[], 0, ⟨up ++ l, dn, (ls 0).length + l.length, ((ls 2).length : Int), ((ls 1).length : Int), ((ls 3).length : Int), cr, en⟩⟩ by simp [sstep, hf]] at this
            exact Lib.hid this
          clear HD0
          go_wp2_with fail
          refine HD.out.mono ?_
          rintro e w3 ⟨v, rfl, hv3, hs3, hch3⟩
          clear HD
          have s3 := hch3.size
          have e0 := (hch3.cell (p := ⟨gl, ol + k * 3, none⟩) (by show gl < wr.heap.size; omega) (by simp; omega)).trans q0
          have e1 := (hch3.cell (p := ⟨gl, ol + k * 3 + 1, none⟩) (by show gl < wr.heap.size; omega) (by simp; omega)).trans q1
          have e2 := (hch3.cell (p := ⟨gl, ol + k * 3 + 2, none⟩) (by show gl < wr.heap.size; omega) (by simp; omega)).trans q2
          have hbel3 : Below w.heap.size w w3 := hbel.trans (hch3.below (by omega) (by simp; omega))
          have HM3 : Hid (Mem w3 w1.heap.size vs ls) := Lib.hid (HM.out.chg hch3 (by simp; omega))
          have HROW3 : Hid (CRow w3 (.slice ad l.length cd) l) := Lib.hid (crow_chg HROW.out hch3 (by simpa using HO.out))
          have HS3 := Lib.hid hs3
          have HV3 := Lib.hid hv3
          have HB3 := Lib.hid hbel3
          obtain ⟨av, cv, hvv⟩ := brow_form (bys_row HV3.out)
          rw [hvv]
          rw [hvv] at HV3
          clear q0 q1 q2 hs3 hv3 hch3 hvv hbel3 HM HROW HO HSI hbel
          have hn0 : w3.cell? ⟨w1.heap.size, 0, none⟩ = some (vs 0) := HM3.out.cell 0 (by omega)
          have HMD : Hid (Mem w3.drew w1.heap.size vs ls) := Lib.hid HM3.out.drew
          have hz3 : w1.heap.size + 2 ≤ w3.heap.size := HM3.out.lt
          have k0 : (0 : Int) ≤ (k : Int) := by omega
          have k1 : (k : Int) < (len : Int) := by omega
          have hwj : IntKind.i64.wrap 0 = 0 := by decide
          go_wp2_with fail
          go_region_law (refine step_append_at (by rfl) (.tmp 55) (.tmp 60) (by rfl) (w1.heap.size + 2) _ _ (ls 0) l (by rfl) (by rfl) (by exact HMD.out.own 0 (by omega)) (by exact crow_chg HROW3.out ((Chg.refl [] _).drew) (by simp)) (by omega) (by exact hz3) ?_; intro a6 c6 w6 hown6 hgrow6 hat6; have y0 : w6.cell? ⟨w1.heap.size, 0, none⟩ = some (vs 0) := (grown_at HMD.out (by omega) hgrow6 0 (by omega)).1; have y1 : w6.frozen? ⟨w1.heap.size, 0, none⟩ = false := (grown_at HMD.out (by omega) hgrow6 0 (by omega)).2; have HG := Lib.hid hgrow6; have HW := Lib.hid hown6; have HAT := Lib.hid hat6; clear hgrow6 hown6 hat6)
          all_goals
            go_wp2_with fail
            go_roundw
            case rel => exact rel_in0 (v' := .slice a6 ((ls 0).length + l.length) c6) hkl (by go_num) rfl (SIs.put (j := 0) HS3.out.drew HMD.out (by omega) HG.out l0 l1 l2) (Mem.put (j := 0) HMD.out (by omega) HW.out HG.out HAT.out) HI0.out HI1.out (by omega) hc0 hc1 (below_put (j := 0) HB3.out.drew HMD.out (by omega) HG.out (by omega))
            case measure => simp [intOf]; omega
      by_cases k2 : kk = 2
      · subst k2
        clear k1
        cases en
        · by_cases hf : 64 < dn.length + l.length
          · have HD : Hid (Calls Try.prog 34 #[.pointer (some ⟨s, 0, none⟩), .agg #[.int .i64 2, .int .i64 n, .slice ad l.length cd]] wr (DoPost s b0 b1 ⟨#[97]⟩ ⟨[], 15, ⟨up, dn, ((ls 0).length : Int), ((ls 2).length : Int), ((ls 1).length : Int), ((ls 3).length : Int), cr, false⟩⟩ wr)) := by
              have := HD0.out
              rw [show sstep 2 n l ⟨up, dn, (ls 0).length, (ls 2).length, (ls 1).length, (ls 3).length, cr, false⟩ = ⟨[], 15, ⟨up, dn, ((ls 0).length : Int), ((ls 2).length : Int), ((ls 1).length : Int), ((ls 3).length : Int), cr, false⟩⟩ by simp [sstep, hf]] at this
              exact Lib.hid this
            clear HD0
            go_wp2_with fail
            refine HD.out.mono ?_
            rintro e w3 ⟨v, rfl, hv3, hs3, hch3⟩
            clear HD
            have s3 := hch3.size
            have e0 := (hch3.cell (p := ⟨gl, ol + k * 3, none⟩) (by show gl < wr.heap.size; omega) (by simp; omega)).trans q0
            have e1 := (hch3.cell (p := ⟨gl, ol + k * 3 + 1, none⟩) (by show gl < wr.heap.size; omega) (by simp; omega)).trans q1
            have e2 := (hch3.cell (p := ⟨gl, ol + k * 3 + 2, none⟩) (by show gl < wr.heap.size; omega) (by simp; omega)).trans q2
            have hbel3 : Below w.heap.size w w3 := hbel.trans (hch3.below (by omega) (by simp; omega))
            have HM3 : Hid (Mem w3 w1.heap.size vs ls) := Lib.hid (HM.out.chg hch3 (by simp; omega))
            have HROW3 : Hid (CRow w3 (.slice ad l.length cd) l) := Lib.hid (crow_chg HROW.out hch3 (by simpa using HO.out))
            have HS3 := Lib.hid hs3
            have HV3 := Lib.hid hv3
            have HB3 := Lib.hid hbel3
            obtain ⟨av, cv, hvv⟩ := brow_form (bys_row HV3.out)
            rw [hvv]
            rw [hvv] at HV3
            clear q0 q1 q2 hs3 hv3 hch3 hvv hbel3 HM HROW HO HSI hbel
            go_wp2_with fail
            go_roundw
            case rel => exact rel_same hkl (by go_num) (rfl) HS3.out HM3.out HI0.out HI1.out hc0 hc1 HB3.out
            case measure => simp [intOf]; omega
          · have HD : Hid (Calls Try.prog 34 #[.pointer (some ⟨s, 0, none⟩), .agg #[.int .i64 2, .int .i64 n, .slice ad l.length cd]] wr (DoPost s b0 b1 ⟨#[97]⟩ ⟨[], 0, ⟨up, dn ++ l, ((ls 0).length : Int), ((ls 2).length : Int), (ls 1).length + l.length, ((ls 3).length : Int), cr, false⟩⟩ wr)) := by
              have := HD0.out
              rw [show sstep 2 n l ⟨up, dn, (ls 0).length, (ls 2).length, (ls 1).length, (ls 3).length, cr, false⟩ = ⟨[], 0, ⟨up, dn ++ l, ((ls 0).length : Int), ((ls 2).length : Int), (ls 1).length + l.length, ((ls 3).length : Int), cr, false⟩⟩ by simp [sstep, hf]] at this
              exact Lib.hid this
            clear HD0
            go_wp2_with fail
            refine HD.out.mono ?_
            rintro e w3 ⟨v, rfl, hv3, hs3, hch3⟩
            clear HD
            have s3 := hch3.size
            have e0 := (hch3.cell (p := ⟨gl, ol + k * 3, none⟩) (by show gl < wr.heap.size; omega) (by simp; omega)).trans q0
            have e1 := (hch3.cell (p := ⟨gl, ol + k * 3 + 1, none⟩) (by show gl < wr.heap.size; omega) (by simp; omega)).trans q1
            have e2 := (hch3.cell (p := ⟨gl, ol + k * 3 + 2, none⟩) (by show gl < wr.heap.size; omega) (by simp; omega)).trans q2
            have hbel3 : Below w.heap.size w w3 := hbel.trans (hch3.below (by omega) (by simp; omega))
            have HM3 : Hid (Mem w3 w1.heap.size vs ls) := Lib.hid (HM.out.chg hch3 (by simp; omega))
            have HROW3 : Hid (CRow w3 (.slice ad l.length cd) l) := Lib.hid (crow_chg HROW.out hch3 (by simpa using HO.out))
            have HS3 := Lib.hid hs3
            have HV3 := Lib.hid hv3
            have HB3 := Lib.hid hbel3
            obtain ⟨av, cv, hvv⟩ := brow_form (bys_row HV3.out)
            rw [hvv]
            rw [hvv] at HV3
            clear q0 q1 q2 hs3 hv3 hch3 hvv hbel3 HM HROW HO HSI hbel
            have hn0 : w3.cell? ⟨w1.heap.size, 1, none⟩ = some (vs 1) := HM3.out.cell 1 (by omega)
            have HMD : Hid (Mem w3.drew w1.heap.size vs ls) := Lib.hid HM3.out.drew
            have hz3 : w1.heap.size + 2 ≤ w3.heap.size := HM3.out.lt
            have k0 : (0 : Int) ≤ (k : Int) := by omega
            have k1 : (k : Int) < (len : Int) := by omega
            have hwj : IntKind.i64.wrap 1 = 1 := by decide
            go_wp2_with fail
            go_region_law (refine step_append_at (by rfl) (.tmp 55) (.tmp 60) (by rfl) (w1.heap.size + 2) _ _ (ls 1) l (by rfl) (by rfl) (by exact HMD.out.own 1 (by omega)) (by exact crow_chg HROW3.out ((Chg.refl [] _).drew) (by simp)) (by omega) (by exact hz3) ?_; intro a6 c6 w6 hown6 hgrow6 hat6; have y0 : w6.cell? ⟨w1.heap.size, 1, none⟩ = some (vs 1) := (grown_at HMD.out (by omega) hgrow6 1 (by omega)).1; have y1 : w6.frozen? ⟨w1.heap.size, 1, none⟩ = false := (grown_at HMD.out (by omega) hgrow6 1 (by omega)).2; have HG := Lib.hid hgrow6; have HW := Lib.hid hown6; have HAT := Lib.hid hat6; clear hgrow6 hown6 hat6)
            all_goals
              go_wp2_with fail
              go_roundw
              case rel => exact rel_in1 (v' := .slice a6 ((ls 1).length + l.length) c6) hkl (by go_num) rfl (SIs.put (j := 1) HS3.out.drew HMD.out (by omega) HG.out l0 l1 l2) (Mem.put (j := 1) HMD.out (by omega) HW.out HG.out HAT.out) HI0.out HI1.out (by omega) hc0 hc1 (below_put (j := 1) HB3.out.drew HMD.out (by omega) HG.out (by omega))
              case measure => simp [intOf]; omega
        · have HD : Hid (Calls Try.prog 34 #[.pointer (some ⟨s, 0, none⟩), .agg #[.int .i64 2, .int .i64 n, .slice ad l.length cd]] wr (DoPost s b0 b1 ⟨#[97]⟩ ⟨[], 12, ⟨up, dn, ((ls 0).length : Int), ((ls 2).length : Int), ((ls 1).length : Int), ((ls 3).length : Int), cr, true⟩⟩ wr)) := by
            have := HD0.out
            rw [show sstep 2 n l ⟨up, dn, (ls 0).length, (ls 2).length, (ls 1).length, (ls 3).length, cr, true⟩ = ⟨[], 12, ⟨up, dn, ((ls 0).length : Int), ((ls 2).length : Int), ((ls 1).length : Int), ((ls 3).length : Int), cr, true⟩⟩ by simp [sstep]] at this
            exact Lib.hid this
          clear HD0
          go_wp2_with fail
          refine HD.out.mono ?_
          rintro e w3 ⟨v, rfl, hv3, hs3, hch3⟩
          clear HD
          have s3 := hch3.size
          have e0 := (hch3.cell (p := ⟨gl, ol + k * 3, none⟩) (by show gl < wr.heap.size; omega) (by simp; omega)).trans q0
          have e1 := (hch3.cell (p := ⟨gl, ol + k * 3 + 1, none⟩) (by show gl < wr.heap.size; omega) (by simp; omega)).trans q1
          have e2 := (hch3.cell (p := ⟨gl, ol + k * 3 + 2, none⟩) (by show gl < wr.heap.size; omega) (by simp; omega)).trans q2
          have hbel3 : Below w.heap.size w w3 := hbel.trans (hch3.below (by omega) (by simp; omega))
          have HM3 : Hid (Mem w3 w1.heap.size vs ls) := Lib.hid (HM.out.chg hch3 (by simp; omega))
          have HROW3 : Hid (CRow w3 (.slice ad l.length cd) l) := Lib.hid (crow_chg HROW.out hch3 (by simpa using HO.out))
          have HS3 := Lib.hid hs3
          have HV3 := Lib.hid hv3
          have HB3 := Lib.hid hbel3
          obtain ⟨av, cv, hvv⟩ := brow_form (bys_row HV3.out)
          rw [hvv]
          rw [hvv] at HV3
          clear q0 q1 q2 hs3 hv3 hch3 hvv hbel3 HM HROW HO HSI hbel
          go_wp2_with fail
          go_roundw
          case rel => exact rel_same hkl (by go_num) (rfl) HS3.out HM3.out HI0.out HI1.out hc0 hc1 HB3.out
          case measure => simp [intOf]; omega
      by_cases k3 : kk = 3
      · subst k3
        clear k1 k2
        by_cases hf : n < 1 ∨ 1048576 < n ∨ 1048576 - n < cr
        · have HD : Hid (Calls Try.prog 34 #[.pointer (some ⟨s, 0, none⟩), .agg #[.int .i64 3, .int .i64 n, .slice ad l.length cd]] wr (DoPost s b0 b1 ⟨#[97]⟩ ⟨[], 6, ⟨up, dn, ((ls 0).length : Int), ((ls 2).length : Int), ((ls 1).length : Int), ((ls 3).length : Int), cr, en⟩⟩ wr)) := by
            have := HD0.out
            rw [show sstep 3 n l ⟨up, dn, (ls 0).length, (ls 2).length, (ls 1).length, (ls 3).length, cr, en⟩ = ⟨[], 6, ⟨up, dn, ((ls 0).length : Int), ((ls 2).length : Int), ((ls 1).length : Int), ((ls 3).length : Int), cr, en⟩⟩ by simp [sstep, hf]] at this
            exact Lib.hid this
          clear HD0
          go_wp2_with fail
          refine HD.out.mono ?_
          rintro e w3 ⟨v, rfl, hv3, hs3, hch3⟩
          clear HD
          have s3 := hch3.size
          have e0 := (hch3.cell (p := ⟨gl, ol + k * 3, none⟩) (by show gl < wr.heap.size; omega) (by simp; omega)).trans q0
          have e1 := (hch3.cell (p := ⟨gl, ol + k * 3 + 1, none⟩) (by show gl < wr.heap.size; omega) (by simp; omega)).trans q1
          have e2 := (hch3.cell (p := ⟨gl, ol + k * 3 + 2, none⟩) (by show gl < wr.heap.size; omega) (by simp; omega)).trans q2
          have hbel3 : Below w.heap.size w w3 := hbel.trans (hch3.below (by omega) (by simp; omega))
          have HM3 : Hid (Mem w3 w1.heap.size vs ls) := Lib.hid (HM.out.chg hch3 (by simp; omega))
          have HROW3 : Hid (CRow w3 (.slice ad l.length cd) l) := Lib.hid (crow_chg HROW.out hch3 (by simpa using HO.out))
          have HS3 := Lib.hid hs3
          have HV3 := Lib.hid hv3
          have HB3 := Lib.hid hbel3
          obtain ⟨av, cv, hvv⟩ := brow_form (bys_row HV3.out)
          rw [hvv]
          rw [hvv] at HV3
          clear q0 q1 q2 hs3 hv3 hch3 hvv hbel3 HM HROW HO HSI hbel
          clear hf
          go_wp2_with fail
          go_roundw
          case rel => exact rel_same hkl (by go_num) (rfl) HS3.out HM3.out HI0.out HI1.out hc0 hc1 HB3.out
          case measure => simp [intOf]; omega
        · have HD : Hid (Calls Try.prog 34 #[.pointer (some ⟨s, 0, none⟩), .agg #[.int .i64 3, .int .i64 n, .slice ad l.length cd]] wr (DoPost s b0 b1 ⟨#[97]⟩ ⟨[], 0, ⟨up, dn, ((ls 0).length : Int), ((ls 2).length : Int), ((ls 1).length : Int), ((ls 3).length : Int), cr + n, en⟩⟩ wr)) := by
            have := HD0.out
            rw [show sstep 3 n l ⟨up, dn, (ls 0).length, (ls 2).length, (ls 1).length, (ls 3).length, cr, en⟩ = ⟨[], 0, ⟨up, dn, ((ls 0).length : Int), ((ls 2).length : Int), ((ls 1).length : Int), ((ls 3).length : Int), cr + n, en⟩⟩ by simp [sstep, hf]] at this
            exact Lib.hid this
          clear HD0
          go_wp2_with fail
          refine HD.out.mono ?_
          rintro e w3 ⟨v, rfl, hv3, hs3, hch3⟩
          clear HD
          have s3 := hch3.size
          have e0 := (hch3.cell (p := ⟨gl, ol + k * 3, none⟩) (by show gl < wr.heap.size; omega) (by simp; omega)).trans q0
          have e1 := (hch3.cell (p := ⟨gl, ol + k * 3 + 1, none⟩) (by show gl < wr.heap.size; omega) (by simp; omega)).trans q1
          have e2 := (hch3.cell (p := ⟨gl, ol + k * 3 + 2, none⟩) (by show gl < wr.heap.size; omega) (by simp; omega)).trans q2
          have hbel3 : Below w.heap.size w w3 := hbel.trans (hch3.below (by omega) (by simp; omega))
          have HM3 : Hid (Mem w3 w1.heap.size vs ls) := Lib.hid (HM.out.chg hch3 (by simp; omega))
          have HROW3 : Hid (CRow w3 (.slice ad l.length cd) l) := Lib.hid (crow_chg HROW.out hch3 (by simpa using HO.out))
          have HS3 := Lib.hid hs3
          have HV3 := Lib.hid hv3
          have HB3 := Lib.hid hbel3
          obtain ⟨av, cv, hvv⟩ := brow_form (bys_row HV3.out)
          rw [hvv]
          rw [hvv] at HV3
          clear q0 q1 q2 hs3 hv3 hch3 hvv hbel3 HM HROW HO HSI hbel
          have f1 : 1 ≤ n := by omega
          have f2 : n ≤ 1048576 := by omega
          clear hf
          go_wp2_with fail
          go_roundw
          case rel => exact rel_same hkl (by go_num) (by congr 1; omega) HS3.out HM3.out HI0.out HI1.out hc0 hc1 HB3.out
          case measure => simp [intOf]; omega
      by_cases k4 : kk = 4
      · subst k4
        clear k1 k2 k3
        cases en
        · have HD : Hid (Calls Try.prog 34 #[.pointer (some ⟨s, 0, none⟩), .agg #[.int .i64 4, .int .i64 n, .slice ad l.length cd]] wr (DoPost s b0 b1 ⟨#[97]⟩ ⟨[], 0, ⟨up, dn, ((ls 0).length : Int), ((ls 2).length : Int), ((ls 1).length : Int), ((ls 3).length : Int), cr, true⟩⟩ wr)) := by
            have := HD0.out
            rw [show sstep 4 n l ⟨up, dn, (ls 0).length, (ls 2).length, (ls 1).length, (ls 3).length, cr, false⟩ = ⟨[], 0, ⟨up, dn, ((ls 0).length : Int), ((ls 2).length : Int), ((ls 1).length : Int), ((ls 3).length : Int), cr, true⟩⟩ by simp [sstep]] at this
            exact Lib.hid this
          clear HD0
          go_wp2_with fail
          refine HD.out.mono ?_
          rintro e w3 ⟨v, rfl, hv3, hs3, hch3⟩
          clear HD
          have s3 := hch3.size
          have e0 := (hch3.cell (p := ⟨gl, ol + k * 3, none⟩) (by show gl < wr.heap.size; omega) (by simp; omega)).trans q0
          have e1 := (hch3.cell (p := ⟨gl, ol + k * 3 + 1, none⟩) (by show gl < wr.heap.size; omega) (by simp; omega)).trans q1
          have e2 := (hch3.cell (p := ⟨gl, ol + k * 3 + 2, none⟩) (by show gl < wr.heap.size; omega) (by simp; omega)).trans q2
          have hbel3 : Below w.heap.size w w3 := hbel.trans (hch3.below (by omega) (by simp; omega))
          have HM3 : Hid (Mem w3 w1.heap.size vs ls) := Lib.hid (HM.out.chg hch3 (by simp; omega))
          have HROW3 : Hid (CRow w3 (.slice ad l.length cd) l) := Lib.hid (crow_chg HROW.out hch3 (by simpa using HO.out))
          have HS3 := Lib.hid hs3
          have HV3 := Lib.hid hv3
          have HB3 := Lib.hid hbel3
          obtain ⟨av, cv, hvv⟩ := brow_form (bys_row HV3.out)
          rw [hvv]
          rw [hvv] at HV3
          clear q0 q1 q2 hs3 hv3 hch3 hvv hbel3 HM HROW HO HSI hbel
          go_wp2_with fail
          go_roundw
          case rel => exact rel_same hkl (by go_num) (rfl) HS3.out HM3.out HI0.out HI1.out hc0 hc1 HB3.out
          case measure => simp [intOf]; omega
        · have HD : Hid (Calls Try.prog 34 #[.pointer (some ⟨s, 0, none⟩), .agg #[.int .i64 4, .int .i64 n, .slice ad l.length cd]] wr (DoPost s b0 b1 ⟨#[97]⟩ ⟨[], 12, ⟨up, dn, ((ls 0).length : Int), ((ls 2).length : Int), ((ls 1).length : Int), ((ls 3).length : Int), cr, true⟩⟩ wr)) := by
            have := HD0.out
            rw [show sstep 4 n l ⟨up, dn, (ls 0).length, (ls 2).length, (ls 1).length, (ls 3).length, cr, true⟩ = ⟨[], 12, ⟨up, dn, ((ls 0).length : Int), ((ls 2).length : Int), ((ls 1).length : Int), ((ls 3).length : Int), cr, true⟩⟩ by simp [sstep]] at this
            exact Lib.hid this
          clear HD0
          go_wp2_with fail
          refine HD.out.mono ?_
          rintro e w3 ⟨v, rfl, hv3, hs3, hch3⟩
          clear HD
          have s3 := hch3.size
          have e0 := (hch3.cell (p := ⟨gl, ol + k * 3, none⟩) (by show gl < wr.heap.size; omega) (by simp; omega)).trans q0
          have e1 := (hch3.cell (p := ⟨gl, ol + k * 3 + 1, none⟩) (by show gl < wr.heap.size; omega) (by simp; omega)).trans q1
          have e2 := (hch3.cell (p := ⟨gl, ol + k * 3 + 2, none⟩) (by show gl < wr.heap.size; omega) (by simp; omega)).trans q2
          have hbel3 : Below w.heap.size w w3 := hbel.trans (hch3.below (by omega) (by simp; omega))
          have HM3 : Hid (Mem w3 w1.heap.size vs ls) := Lib.hid (HM.out.chg hch3 (by simp; omega))
          have HROW3 : Hid (CRow w3 (.slice ad l.length cd) l) := Lib.hid (crow_chg HROW.out hch3 (by simpa using HO.out))
          have HS3 := Lib.hid hs3
          have HV3 := Lib.hid hv3
          have HB3 := Lib.hid hbel3
          obtain ⟨av, cv, hvv⟩ := brow_form (bys_row HV3.out)
          rw [hvv]
          rw [hvv] at HV3
          clear q0 q1 q2 hs3 hv3 hch3 hvv hbel3 HM HROW HO HSI hbel
          go_wp2_with fail
          go_roundw
          case rel => exact rel_same hkl (by go_num) (rfl) HS3.out HM3.out HI0.out HI1.out hc0 hc1 HB3.out
          case measure => simp [intOf]; omega
      by_cases k5 : kk = 5
      · subst k5
        clear k1 k2 k3 k4
        obtain ⟨m, hm, hmu⟩ : ∃ m, took n (min up.length 16) = m ∧ m ≤ up.length := ⟨_, rfl, by have := took_le n (min up.length 16); omega⟩
        obtain ⟨tk, htk⟩ : ∃ tk, up.take m = tk := ⟨_, rfl⟩
        have htl : tk.length ≤ 64 := by rw [← htk]; simp; omega
        have HTK := Lib.hid htk
        have HD : Hid (Calls Try.prog 34 #[.pointer (some ⟨s, 0, none⟩), .agg #[.int .i64 5, .int .i64 n, .slice ad l.length cd]] wr (DoPost s b0 b1 ⟨#[97]⟩ ⟨tk, 0, ⟨up.drop m, dn, ((ls 0).length : Int), ((ls 2).length : Int) + (m : Nat), ((ls 1).length : Int), ((ls 3).length : Int), cr, en⟩⟩ wr)) := by
          have := HD0.out
          rw [show sstep 5 n l ⟨up, dn, (ls 0).length, (ls 2).length, (ls 1).length, (ls 3).length, cr, en⟩ = ⟨tk, 0, ⟨up.drop m, dn, ((ls 0).length : Int), ((ls 2).length : Int) + (m : Nat), ((ls 1).length : Int), ((ls 3).length : Int), cr, en⟩⟩ by unfold sstep; simp only [hm, htk]; rfl] at this
          exact Lib.hid this
        clear HD0 hm htk
        go_wp2_with fail
        refine HD.out.mono ?_
        rintro e w3 ⟨v, rfl, hv3, hs3, hch3⟩
        clear HD
        have s3 := hch3.size
        have e0 := (hch3.cell (p := ⟨gl, ol + k * 3, none⟩) (by show gl < wr.heap.size; omega) (by simp; omega)).trans q0
        have e1 := (hch3.cell (p := ⟨gl, ol + k * 3 + 1, none⟩) (by show gl < wr.heap.size; omega) (by simp; omega)).trans q1
        have e2 := (hch3.cell (p := ⟨gl, ol + k * 3 + 2, none⟩) (by show gl < wr.heap.size; omega) (by simp; omega)).trans q2
        have hbel3 : Below w.heap.size w w3 := hbel.trans (hch3.below (by omega) (by simp; omega))
        have HM3 : Hid (Mem w3 w1.heap.size vs ls) := Lib.hid (HM.out.chg hch3 (by simp; omega))
        have HROW3 : Hid (CRow w3 (.slice ad l.length cd) l) := Lib.hid (crow_chg HROW.out hch3 (by simpa using HO.out))
        have HS3 := Lib.hid hs3
        have HV3 := Lib.hid hv3
        have HB3 := Lib.hid hbel3
        obtain ⟨av, cv, hvv⟩ := brow_form (bys_row HV3.out)
        rw [hvv]
        rw [hvv] at HV3
        clear q0 q1 q2 hs3 hv3 hch3 hvv hbel3 HM HROW HO HSI hbel
        have hn0 : w3.cell? ⟨w1.heap.size + 1, 0, none⟩ = some (vs 2) := HM3.out.cell 2 (by omega)
        have hz3 : w1.heap.size + 2 ≤ w3.heap.size := HM3.out.lt
        have HV4 : Hid (CRow w3 (.slice av tk.length cv) tk) := Lib.hid (bys_crow HV3.out)
        go_wp2_with (at_builtin; refine wpList_append_bytes rfl (.tmp 87) (.tmp 88) rfl (w1.heap.size + 2) _ _ (ls 2) tk rfl rfl (HM3.out.own 2 (by omega)) HV4.out (by omega) hz3 ?_; intro a6 c6 w6 hown6 hgrow6 hat6; have y0 : w6.cell? ⟨w1.heap.size + 1, 0, none⟩ = some (vs 2) := (grown_at HM3.out (by omega) hgrow6 2 (by omega)).1; have y1 : w6.frozen? ⟨w1.heap.size + 1, 0, none⟩ = false := (grown_at HM3.out (by omega) hgrow6 2 (by omega)).2; have HG := Lib.hid hgrow6; have HW := Lib.hid hown6; have HAT := Lib.hid hat6; clear hgrow6 hown6 hat6)
        go_roundw
        case rel => exact rel_out0 (m := m) (v' := .slice a6 ((ls 2).length + tk.length) c6) hkl (by go_num) rfl (SIs.put (j := 2) HS3.out HM3.out (by omega) HG.out l0 l1 l2) HTK.out (Mem.put (j := 2) HM3.out (by omega) HW.out HG.out HAT.out) HI0.out HI1.out (by omega) hc0 hc1 (below_put (j := 2) HB3.out HM3.out (by omega) HG.out (by omega))
        case measure => simp [intOf]; omega
      by_cases k6 : kk = 6
      · subst k6
        clear k1 k2 k3 k4 k5
        obtain ⟨m, hm, hmu⟩ : ∃ m, took n (min (min dn.length 16) cr.toNat) = m ∧ m ≤ dn.length := ⟨_, rfl, by have := took_le n (min (min dn.length 16) cr.toNat); omega⟩
        obtain ⟨tk, htk⟩ : ∃ tk, dn.take m = tk := ⟨_, rfl⟩
        have htl : tk.length ≤ 64 := by rw [← htk]; simp; omega
        have HTK := Lib.hid htk
        have HD : Hid (Calls Try.prog 34 #[.pointer (some ⟨s, 0, none⟩), .agg #[.int .i64 6, .int .i64 n, .slice ad l.length cd]] wr (DoPost s b0 b1 ⟨#[97]⟩ ⟨tk, 0, ⟨up, dn.drop m, ((ls 0).length : Int), ((ls 2).length : Int), ((ls 1).length : Int), ((ls 3).length : Int) + (m : Nat), cr - (m : Nat), en⟩⟩ wr)) := by
          have := HD0.out
          rw [show sstep 6 n l ⟨up, dn, (ls 0).length, (ls 2).length, (ls 1).length, (ls 3).length, cr, en⟩ = ⟨tk, 0, ⟨up, dn.drop m, ((ls 0).length : Int), ((ls 2).length : Int), ((ls 1).length : Int), ((ls 3).length : Int) + (m : Nat), cr - (m : Nat), en⟩⟩ by unfold sstep; simp only [hm, htk]; rfl] at this
          exact Lib.hid this
        clear HD0 hm htk
        go_wp2_with fail
        refine HD.out.mono ?_
        rintro e w3 ⟨v, rfl, hv3, hs3, hch3⟩
        clear HD
        have s3 := hch3.size
        have e0 := (hch3.cell (p := ⟨gl, ol + k * 3, none⟩) (by show gl < wr.heap.size; omega) (by simp; omega)).trans q0
        have e1 := (hch3.cell (p := ⟨gl, ol + k * 3 + 1, none⟩) (by show gl < wr.heap.size; omega) (by simp; omega)).trans q1
        have e2 := (hch3.cell (p := ⟨gl, ol + k * 3 + 2, none⟩) (by show gl < wr.heap.size; omega) (by simp; omega)).trans q2
        have hbel3 : Below w.heap.size w w3 := hbel.trans (hch3.below (by omega) (by simp; omega))
        have HM3 : Hid (Mem w3 w1.heap.size vs ls) := Lib.hid (HM.out.chg hch3 (by simp; omega))
        have HROW3 : Hid (CRow w3 (.slice ad l.length cd) l) := Lib.hid (crow_chg HROW.out hch3 (by simpa using HO.out))
        have HS3 := Lib.hid hs3
        have HV3 := Lib.hid hv3
        have HB3 := Lib.hid hbel3
        obtain ⟨av, cv, hvv⟩ := brow_form (bys_row HV3.out)
        rw [hvv]
        rw [hvv] at HV3
        clear q0 q1 q2 hs3 hv3 hch3 hvv hbel3 HM HROW HO HSI hbel
        have hn0 : w3.cell? ⟨w1.heap.size + 1, 1, none⟩ = some (vs 3) := HM3.out.cell 3 (by omega)
        have hz3 : w1.heap.size + 2 ≤ w3.heap.size := HM3.out.lt
        have HV4 : Hid (CRow w3 (.slice av tk.length cv) tk) := Lib.hid (bys_crow HV3.out)
        go_wp2_with (at_builtin; refine wpList_append_bytes rfl (.tmp 87) (.tmp 88) rfl (w1.heap.size + 2) _ _ (ls 3) tk rfl rfl (HM3.out.own 3 (by omega)) HV4.out (by omega) hz3 ?_; intro a6 c6 w6 hown6 hgrow6 hat6; have y0 : w6.cell? ⟨w1.heap.size + 1, 1, none⟩ = some (vs 3) := (grown_at HM3.out (by omega) hgrow6 3 (by omega)).1; have y1 : w6.frozen? ⟨w1.heap.size + 1, 1, none⟩ = false := (grown_at HM3.out (by omega) hgrow6 3 (by omega)).2; have HG := Lib.hid hgrow6; have HW := Lib.hid hown6; have HAT := Lib.hid hat6; clear hgrow6 hown6 hat6)
        go_roundw
        case rel => exact rel_out1 (m := m) (v' := .slice a6 ((ls 3).length + tk.length) c6) hkl (by go_num) rfl (SIs.put (j := 3) HS3.out HM3.out (by omega) HG.out l0 l1 l2) HTK.out (Mem.put (j := 3) HM3.out (by omega) HW.out HG.out HAT.out) HI0.out HI1.out (by omega) hc0 hc1 (below_put (j := 3) HB3.out HM3.out (by omega) HG.out (by omega))
        case measure => simp [intOf]; omega
      have t1 : (kk == 1) = false := by simp [k1]
      have t2 : (kk == 2) = false := by simp [k2]
      have t3 : (kk == 3) = false := by simp [k3]
      have t5 : (kk == 5) = false := by simp [k5]
      have t6 : (kk == 6) = false := by simp [k6]
      have HD : Hid (Calls Try.prog 34 #[.pointer (some ⟨s, 0, none⟩), .agg #[.int .i64 kk, .int .i64 n, .slice ad l.length cd]] wr (DoPost s b0 b1 ⟨#[97]⟩ ⟨[], 0, ⟨up, dn, ((ls 0).length : Int), ((ls 2).length : Int), ((ls 1).length : Int), ((ls 3).length : Int), cr, en⟩⟩ wr)) := by
        have := HD0.out
        rw [show sstep kk n l ⟨up, dn, (ls 0).length, (ls 2).length, (ls 1).length, (ls 3).length, cr, en⟩ = ⟨[], 0, ⟨up, dn, ((ls 0).length : Int), ((ls 2).length : Int), ((ls 1).length : Int), ((ls 3).length : Int), cr, en⟩⟩ by simp [sstep, k1, k2, k3, k4, k5, k6]] at this
        exact Lib.hid this
      clear HD0 k1 k2 k3 k4 k5 k6
      go_wp2_with fail
      refine HD.out.mono ?_
      rintro e w3 ⟨v, rfl, hv3, hs3, hch3⟩
      clear HD
      have s3 := hch3.size
      have e0 := (hch3.cell (p := ⟨gl, ol + k * 3, none⟩) (by show gl < wr.heap.size; omega) (by simp; omega)).trans q0
      have e1 := (hch3.cell (p := ⟨gl, ol + k * 3 + 1, none⟩) (by show gl < wr.heap.size; omega) (by simp; omega)).trans q1
      have e2 := (hch3.cell (p := ⟨gl, ol + k * 3 + 2, none⟩) (by show gl < wr.heap.size; omega) (by simp; omega)).trans q2
      have hbel3 : Below w.heap.size w w3 := hbel.trans (hch3.below (by omega) (by simp; omega))
      have HM3 : Hid (Mem w3 w1.heap.size vs ls) := Lib.hid (HM.out.chg hch3 (by simp; omega))
      have HROW3 : Hid (CRow w3 (.slice ad l.length cd) l) := Lib.hid (crow_chg HROW.out hch3 (by simpa using HO.out))
      have HS3 := Lib.hid hs3
      have HV3 := Lib.hid hv3
      have HB3 := Lib.hid hbel3
      obtain ⟨av, cv, hvv⟩ := brow_form (bys_row HV3.out)
      rw [hvv]
      rw [hvv] at HV3
      clear q0 q1 q2 hs3 hv3 hch3 hvv hbel3 HM HROW HO HSI hbel
      go_wp2_with fail
      go_roundw
      case rel => exact rel_same hkl (by go_num) (rfl) HS3.out HM3.out HI0.out HI1.out hc0 hc1 HB3.out
      case measure => simp [intOf]; omega
    · have t0 : decide ((k : Int) < (len : Int)) = false := by simp; omega
      have X := Lib.hid (show _ ∧ _ ∧ _ from ⟨HSI.out, HM.out, hbel⟩)
      clear hbel HSI HM hml hsz
      obtain ⟨wo, rfl⟩ : ∃ wo : World, wo = wr := ⟨_, rfl⟩
      go_wp2_with fail
      go_loopw [12] (fun i wr => ∃ j : Nat, j ≤ 2 ∧ i = .int .i64 j ∧ SIs wr s b0 b1 ⟨#[97]⟩ ⟨up, dn, (ls 0).length, (ls 2).length, (ls 1).length, (ls 3).length, cr, en⟩ ∧ Mem wr w1.heap.size vs ls ∧ Below w.heap.size w wr) (fun i _ => 2 - (intOf i).toNat)
      case atStart => exact ⟨0, by omega, rfl, X.out.1, X.out.2.1, X.out.2.2⟩
      case round =>
        clear X
        obtain ⟨j, hj, rfl, hsi, hm, hbel2⟩ := hrel
        have HSI2 := Lib.hid hsi
        have HM2 := Lib.hid hm
        clear hsi hm
        have hcase : j = 0 ∨ j = 1 ∨ j = 2 := by omega
        clear hj
        rcases hcase with rfl | rfl | rfl
        · obtain ⟨a4, c4, e4, m4, n4, l4⟩ := crow_form_cap (bys_crow (HM2.out.own 0 (by omega)))
          obtain ⟨a5, c5, e5⟩ := brow_form (bys_row (HM2.out.own 2 (by omega)))
          have g0 : wr.cell? ⟨w1.heap.size + 1, 0, none⟩ = some (vs 2) := HM2.out.cell 2 (by omega)
          have g1 : wr.cell? ⟨w1.heap.size, 0, none⟩ = some (vs 0) := HM2.out.cell 0 (by omega)
          have hro : CRow wr (vs 0) (ls 0) := bys_crow (HM2.out.own 0 (by omega))
          have hr5 : BRow wr (vs 2) (ls 2) := bys_row (HM2.out.own 2 (by omega))
          rw [e5] at g0 hr5
          rw [e4] at g1 hro
          have hrt : CRow wr (.slice a4 (ls 2).length c4) (ls 2) := by
            have := crow_take hro (ls 2).length h2
            rw [HI0.out, List.take_left'] at this
            · exact this
            · rfl
          have HRT := Lib.hid hrt.row
          have HR5 := Lib.hid hr5
          have N4 := Lib.hid n4
          unfold maxLen at m4
          have hol3 : (ls 2).length ≤ c4 := by omega
          clear hro hrt hr5 e4 e5 n4
          have ol := OL0.out
          have t1 : decide ((ls 0).length < (ls 2).length) = false := by simp; omega
          have t2 : decide (((ls 0).length : Int) < ((ls 2).length : Int)) = false := by simp; omega
          have t3 : ((up.length : Int) != ((ls 0).length : Int) - ((ls 2).length : Int)) = false := by simp; omega
          have t4 : IntKind.i64.wrap (((ls 0).length : Int) - ((ls 2).length : Int)) = ((ls 0).length : Int) - ((ls 2).length : Int) := IntWalk.i64_in _ (by omega)
          clear ol
          go_wp2_with fail
          go_region_held3 (fun w' => w'.cell? ⟨w1.heap.size + 1, 0, none⟩ = some (.slice a5 (ls 2).length c5) ∧ w'.cell? ⟨w1.heap.size, 0, none⟩ = some (.slice a4 (ls 0).length c4))
            (go_keep)
            (first
              | (go_at_call 15; refine (same_any (ls 2) (ls 2) _ _ _ (by omega) (by omega) (by exact HR5.out) (by exact HRT.out)).mono ?_; rintro e w5 ⟨rfl, hb5⟩; rw [decide_eq_true (rfl : ls 2 = ls 2)]; obtain ⟨p0, p1⟩ := keep2 hb5 g0 g1; have HQ5 := Lib.hid (HSI2.out.below (queueDoes.undrew hb5)))
              | (go_at_call 35; refine (waits0 HQ5.out).mono ?_; rintro e w' ⟨rfl, rfl⟩))
          all_goals
            clear t4
            go_wp2_with fail
            go_roundw
            case rel =>
              have hb6 := queueDoes.undrew hb5
              exact ⟨1, by omega, rfl, HQ5.out, HM2.out.below hb6, hbel2.trans (hb6.mono hbel2.size)⟩
            case measure => simp [intOf]
        · obtain ⟨a4, c4, e4, m4, n4, l4⟩ := crow_form_cap (bys_crow (HM2.out.own 1 (by omega)))
          obtain ⟨a5, c5, e5⟩ := brow_form (bys_row (HM2.out.own 3 (by omega)))
          have g0 : wr.cell? ⟨w1.heap.size + 1, 1, none⟩ = some (vs 3) := HM2.out.cell 3 (by omega)
          have g1 : wr.cell? ⟨w1.heap.size, 1, none⟩ = some (vs 1) := HM2.out.cell 1 (by omega)
          have hro : CRow wr (vs 1) (ls 1) := bys_crow (HM2.out.own 1 (by omega))
          have hr5 : BRow wr (vs 3) (ls 3) := bys_row (HM2.out.own 3 (by omega))
          rw [e5] at g0 hr5
          rw [e4] at g1 hro
          have hrt : CRow wr (.slice a4 (ls 3).length c4) (ls 3) := by
            have := crow_take hro (ls 3).length h3
            rw [HI1.out, List.take_left'] at this
            · exact this
            · rfl
          have HRT := Lib.hid hrt.row
          have HR5 := Lib.hid hr5
          have N4 := Lib.hid n4
          unfold maxLen at m4
          have hol3 : (ls 3).length ≤ c4 := by omega
          clear hro hrt hr5 e4 e5 n4
          have ol := OL1.out
          have t1 : decide ((ls 1).length < (ls 3).length) = false := by simp; omega
          have t2 : decide (((ls 1).length : Int) < ((ls 3).length : Int)) = false := by simp; omega
          have t3 : ((dn.length : Int) != ((ls 1).length : Int) - ((ls 3).length : Int)) = false := by simp; omega
          have t4 : IntKind.i64.wrap (((ls 1).length : Int) - ((ls 3).length : Int)) = ((ls 1).length : Int) - ((ls 3).length : Int) := IntWalk.i64_in _ (by omega)
          clear ol
          go_wp2_with fail
          go_region_held3 (fun w' => w'.cell? ⟨w1.heap.size + 1, 1, none⟩ = some (.slice a5 (ls 3).length c5) ∧ w'.cell? ⟨w1.heap.size, 1, none⟩ = some (.slice a4 (ls 1).length c4))
            (go_keep)
            (first
              | (go_at_call 15; refine (same_any (ls 3) (ls 3) _ _ _ (by omega) (by omega) (by exact HR5.out) (by exact HRT.out)).mono ?_; rintro e w5 ⟨rfl, hb5⟩; rw [decide_eq_true (rfl : ls 3 = ls 3)]; obtain ⟨p0, p1⟩ := keep2 hb5 g0 g1; have HQ5 := Lib.hid (HSI2.out.below (queueDoes.undrew hb5)))
              | (go_at_call 35; refine (waits1 HQ5.out).mono ?_; rintro e w' ⟨rfl, rfl⟩))
          all_goals
            clear t4
            go_wp2_with fail
            go_roundw
            case rel =>
              have hb6 := queueDoes.undrew hb5
              exact ⟨2, by omega, rfl, HQ5.out, HM2.out.below hb6, hbel2.trans (hb6.mono hbel2.size)⟩
            case measure => simp [intOf]
        · obtain ⟨a5, c5, e5⟩ := brow_form (bys_row (HM2.out.own 3 (by omega)))
          have g0 : wr.cell? ⟨w1.heap.size + 1, 1, none⟩ = some (vs 3) := HM2.out.cell 3 (by omega)
          rw [e5] at g0
          clear e5
          have t1 : decide (((ls 3).length : Int) ≤ cr + ((ls 3).length : Int)) = true := by simp; omega
          have hs2 := hbel2.size
          go_wp2_with (go_at_call 32; refine (awake26 _).mono ?_; rintro e w3 ⟨rfl, hb3⟩)
          go_ret
          exact ⟨rfl, hbel2.trans (hb3.mono hs2)⟩
end Go.Proofs.Ytinabbdecmjcpaa.streamOrder
