/- The walk of QueueOrder at a list of steps that is not empty. -/
import Derived.Test.YtinabbdecmjcpaaAppend
import Derived.Test.YtinabbdecmjcpaaQueueDoesWalk
namespace Go.Proofs.Ytinabbdecmjcpaa.queueOrder
open Go.RowKit Go.Proofs.Ytinabbdecmjcpaa Go.Proofs.Ytinabbdecmjcpaa.Plain Go.Proofs.Ytinabbdecmjcpaa.Words Go.Proofs.Ytinabbdecmjcpaa.Hex Go.Proofs.Ytinabbdecmjcpaa.Queue
open Go.Proofs.Ytinabbdecmjcpaa.queueDoes (step_bd len_is room_is came_is went_is)
set_option linter.unusedVariables false

/-- What the loop keeps: what came is what went, and is there. -/
def Rel (w : World) (len : Nat) (v4 v5 i : Value) (wr : World) : Prop :=
  ∃ (k : Nat) (q inn out : List UInt8), k ≤ len ∧ i = .int .i64 k ∧ QIs wr w.heap.size q inn.length out.length ∧ Bys wr (w.heap.size + 1) v4 inn ∧ Bys wr (w.heap.size + 1) v5 out ∧ Apart v4 v5 ∧ inn = out ++ q ∧ inn.length ≤ 64 * k ∧ Below w.heap.size w wr

theorem qis_grown {w w' : World} {b : Nat} {q : List UInt8} {c g : Int} {row : Option Nat} (h : QIs w b q c g) (hg : w.grownBy w' row) (hne : row ≠ some b) : QIs w' b q c g := by
  cases row with
  | none => exact h.chg (bs := []) ⟨hg.os, hg.tape, hg.output, hg.size, fun k hk _ => hg.block k hk (fun e => by cases e)⟩ (by simp)
  | some r => exact h.chg (bs := [r]) ⟨hg.os, hg.tape, hg.output, hg.size, fun k hk hn => hg.block k hk (fun e => hn (by cases e; simp))⟩ (by simp only [List.mem_singleton]; intro e; exact hne (by rw [e]))

set_option maxRecDepth 100000 in
set_option maxHeartbeats 2000000 in
theorem walk_more (gl ol cap len : Nat) (w : World) (h0 : 0 < len) (hl0 : len ≤ maxLen) (hg : gl < w.heap.size) (hst : ∀ i, i < len → ∃ k n dv l, StepAt w gl ol i k n dv l) :
    Calls Try.prog 6 #[.slice (some ⟨gl, ol, none⟩) len cap] w fun e w' => e = .returned (.bool true) ∧ Below w.heap.size w w' := by
  have HL := Lib.hid (large_more gl ol cap h0 hl0 hst)
  have HS0 := Lib.hid hst
  clear hst hl0
  go_enter Try.func6, Try.ntmps6
  go_wp2_with fail
  refine HL.out.mono ?_
  rintro e w' ⟨bb, rfl, rfl, hbb⟩
  cases bb
  rotate_left
  · clear hbb
    go_wp2_with fail
    refine (awake25 _).mono ?_
    rintro e w2 ⟨rfl, hb2⟩
    go_wp2
    go_ret
    exact ⟨rfl, hb2⟩
  obtain ⟨hl, hdata⟩ := hbb rfl
  have HS : Hid (∀ i, i < len → ∃ k n dv l, StepAt w gl ol i k n dv l ∧ l.length ≤ 200) := Lib.hid (fun i hi => by
    obtain ⟨k, n, dv, l, hs⟩ := HS0.out i hi
    exact ⟨k, n, dv, l, hs, hdata gl ol cap rfl i hi k n dv l hs⟩)
  clear hbb hdata HS0 HL
  go_wp2_with fail
  refine (new_any w).mono ?_
  rintro e w1 ⟨rfl, hq, hb1⟩
  have hlt := hq.lt
  have hz1 := hb1.size
  have hq2 : QIs w1 w.heap.size [] ((([] : List UInt8).length : Nat) : Int) ((([] : List UInt8).length : Nat) : Int) := ⟨_, _, hq, rfl⟩
  clear hq
  go_wp2_with fail
  go_loopw [4, 5, 6] (fun v4 v5 i wr => Rel w len v4 v5 i wr) (fun _ _ i _ => len - (intOf i).toNat)
  case atStart => exact ⟨0, [], [], [], by omega, rfl, hq2, World.ownsRow_nil _ _ _ _, World.ownsRow_nil _ _ _ _, (fun g h => by cases h), rfl, by simp, hb1⟩
  case round =>
    clear hq2
    obtain ⟨k, q, inn, out, hk, rfl, hq, hv4, hv5, hap, hin, hil, hbel⟩ := hrel
    have hsz := hbel.size
    have HQ := Lib.hid hq
    have hql := hq.len
    have hqt := hq.lt
    have HIN := Lib.hid hin
    have hol : out.length + q.length = inn.length := by rw [hin, List.length_append]
    have HA := Lib.hid hap
    have HV4 := Lib.hid hv4
    have HV5 := Lib.hid hv5
    obtain ⟨a4, c4, e4, m4, n4, l4⟩ := crow_form_cap (bys_crow hv4)
    obtain ⟨a5, c5, e5⟩ := brow_form (bys_row hv5)
    have N4 := Lib.hid n4
    unfold maxLen at m4
    clear n4
    rw [e4, e5]
    have E4 := Lib.hid e4
    have E5 := Lib.hid e5
    have hol2 : out.length ≤ inn.length := by omega
    clear hq hin hap hv4 hv5 e4 e5
    by_cases hkl : k < len
    · obtain ⟨kk, n, dv, l, hs, hl2⟩ := HS.out k hkl
      have b0 := (hbel.cell (p := ⟨gl, ol + k * 3, none⟩) hg).trans hs.c0
      have b1 := (hbel.cell (p := ⟨gl, ol + k * 3 + 1, none⟩) hg).trans hs.c1
      have b2 := (hbel.cell (p := ⟨gl, ol + k * 3 + 2, none⟩) hg).trans hs.c2
      have hrow : CRow wr dv l := crow_below hs.row hbel
      have ho1 := hs.off w.heap.size (Nat.le_refl _)
      obtain ⟨ad, cd, hdv⟩ := crow_form hrow
      have HROW := Lib.hid hrow
      have HO1 := Lib.hid ho1
      clear hs hrow ho1
      rw [hdv] at b2
      have HDV := Lib.hid hdv
      clear hdv hol
      by_cases k4 : kk = 4
      · subst k4
        go_wp2_with fail
        go_roundw
        case rel => exact ⟨k + 1, q, inn, out, by omega, by go_num, HQ.out, E4.out ▸ HV4.out, E5.out ▸ HV5.out, E4.out ▸ E5.out ▸ HA.out, HIN.out, by omega, hbel⟩
        case measure => simp [intOf]; omega
      · have k4b : (kk == 4) = false := by simp [k4]
        by_cases k1 : kk = 1
        · subst k1
          clear k4 k4b
          by_cases hf : 64 < q.length + l.length
          · go_wp2_with fail
            refine (do_any 1 n l _ HQ.out (HDV.out ▸ HROW.out).row (HDV.out ▸ HO1.out) (by omega) (by omega) (by omega) (by omega)).mono ?_
            rintro e w3 ⟨v, rfl, hv3, hq3, hch3⟩
            rw [show Queue.step 1 n l q (inn.length : Int) (out.length : Int) = ⟨[], 0, 15, q, inn.length, out.length⟩ by simp [Queue.step, hf]] at hv3 hq3 ⊢
            have hs3 := hch3.size
            have e0 := (hch3.cell (p := ⟨gl, ol + k * 3, none⟩) (by show gl < wr.heap.size; omega) (by simp; omega)).trans b0
            have e1 := (hch3.cell (p := ⟨gl, ol + k * 3 + 1, none⟩) (by show gl < wr.heap.size; omega) (by simp; omega)).trans b1
            have e2 := (hch3.cell (p := ⟨gl, ol + k * 3 + 2, none⟩) (by show gl < wr.heap.size; omega) (by simp; omega)).trans b2
            have hbel3 : Below w.heap.size w w3 := hbel.trans (hch3.below (by omega) (by simp))
            have h43 : Bys w3 (w.heap.size + 1) (.slice a4 inn.length c4) inn := bys_chg (E4.out ▸ HV4.out) hch3 (by simp)
            have h53 : Bys w3 (w.heap.size + 1) (.slice a5 out.length c5) out := bys_chg (E5.out ▸ HV5.out) hch3 (by simp)
            have HA3 := Lib.hid (show Apart (.slice a4 inn.length c4) (.slice a5 out.length c5) from E4.out ▸ E5.out ▸ HA.out)
            have H43 := Lib.hid h43
            have H53 := Lib.hid h53
            have HV3 := Lib.hid hv3
            have HQ3 := Lib.hid hq3
            clear b0 b1 b2 h43 h53 hv3 hq3
            obtain ⟨av, cv, hvv⟩ := brow_form (bys_row HV3.out)
            rw [hvv]
            clear hvv
            go_wp2_with fail
            go_roundw
            case rel => exact ⟨k + 1, q, inn, out, by omega, by go_num, HQ3.out, H43.out, H53.out, HA3.out, HIN.out, by omega, hbel3⟩
            case measure => simp [intOf]; omega
          · go_wp2_with fail
            refine (do_any 1 n l _ HQ.out (HDV.out ▸ HROW.out).row (HDV.out ▸ HO1.out) (by omega) (by omega) (by omega) (by omega)).mono ?_
            rintro e w3 ⟨v, rfl, hv3, hq3, hch3⟩
            rw [show Queue.step 1 n l q (inn.length : Int) (out.length : Int) = ⟨[], 0, 0, q ++ l, inn.length + l.length, out.length⟩ by simp [Queue.step, hf]] at hv3 hq3 ⊢
            have hs3 := hch3.size
            have e0 := (hch3.cell (p := ⟨gl, ol + k * 3, none⟩) (by show gl < wr.heap.size; omega) (by simp; omega)).trans b0
            have e1 := (hch3.cell (p := ⟨gl, ol + k * 3 + 1, none⟩) (by show gl < wr.heap.size; omega) (by simp; omega)).trans b1
            have e2 := (hch3.cell (p := ⟨gl, ol + k * 3 + 2, none⟩) (by show gl < wr.heap.size; omega) (by simp; omega)).trans b2
            have hbel3 : Below w.heap.size w w3 := hbel.trans (hch3.below (by omega) (by simp))
            have h43 : Bys w3 (w.heap.size + 1) (.slice a4 inn.length c4) inn := bys_chg (E4.out ▸ HV4.out) hch3 (by simp)
            have h53 : Bys w3 (w.heap.size + 1) (.slice a5 out.length c5) out := bys_chg (E5.out ▸ HV5.out) hch3 (by simp)
            have HA3 := Lib.hid (show Apart (.slice a4 inn.length c4) (.slice a5 out.length c5) from E4.out ▸ E5.out ▸ HA.out)
            have H43 := Lib.hid h43
            have H53 := Lib.hid h53
            have HV3 := Lib.hid hv3
            have HQ3 := Lib.hid hq3
            clear b0 b1 b2 h43 h53 hv3 hq3
            have hrow3 : CRow w3 (.slice ad l.length cd) l := crow_chg (HDV.out ▸ HROW.out) hch3 (by simpa using (HDV.out ▸ HO1.out))
            have HROW3 := Lib.hid hrow3
            obtain ⟨av, cv, hvv⟩ := brow_form (bys_row HV3.out)
            rw [hvv]
            clear hvv hrow3
            go_wp2_with (at_builtin; refine wpList_append_bytes rfl (.tmp 46) (.tmp 51) rfl (w.heap.size + 1) _ _ inn l rfl rfl H43.out HROW3.out (by omega) (by omega) ?_; intro a6 c6 w6 hown6 hgrow6 hat6; have e0' := (hgrow6.cell e0 (fun e => by have := (bys_lt H43.out e.symm).1; simp at this; omega)))
            have hbel6 : Below w.heap.size w w6 := hbel3.grown hgrow6 hbel3.size (fun j hj => by have := (bys_lt H43.out hj).1; omega)
            have hq6 := qis_grown HQ3.out hgrow6 (fun e => by have := (bys_lt H43.out e).1; omega)
            have h56 := bys_grown H53.out hgrow6 HA3.out.symm
            have hap6 := apart_new H53.out HA3.out hat6
            have X := Lib.hid (show _ ∧ _ ∧ _ ∧ _ ∧ _ from ⟨hown6, hq6, h56, hap6, hbel6⟩)
            have s6 := hgrow6.size
            clear hown6 hgrow6 hat6 hbel6 hq6 h56 hap6
            go_wp2_with fail
            go_roundw
            case rel =>
              refine ⟨k + 1, q ++ l, inn ++ l, out, by omega, by go_num, ?_, X.out.1, X.out.2.2.1, X.out.2.2.2.1, by rw [HIN.out]; simp, by simp; omega, X.out.2.2.2.2⟩
              have := X.out.2.1
              simpa using this
            case measure => simp [intOf]; omega
        · have k1b : (kk == 1) = false := by simp [k1]
          by_cases k2 : kk = 2
          · subst k2
            clear k4 k4b k1 k1b
            have ht := took_le n q.length
            obtain ⟨tk, htk⟩ : ∃ tk, tk = q.take (took n q.length) := ⟨_, rfl⟩
            have htl : tk.length = took n q.length := by rw [htk]; simp; omega
            have HTK := Lib.hid htk
            have HTL := Lib.hid htl
            have htl2 : tk.length ≤ 64 := by omega
            clear htk htl
            go_wp2_with fail
            refine (do_any 2 n l _ HQ.out (HDV.out ▸ HROW.out).row (HDV.out ▸ HO1.out) (by omega) (by omega) (by omega) (by omega)).mono ?_
            rintro e w3 ⟨v, rfl, hv3, hq3, hch3⟩
            rw [show Queue.step 2 n l q (inn.length : Int) (out.length : Int) = ⟨tk, 0, 0, q.drop (took n q.length), inn.length, out.length + took n q.length⟩ by rw [HTK.out]; simp [Queue.step]] at hv3 hq3 ⊢
            have hs3 := hch3.size
            have e0 := (hch3.cell (p := ⟨gl, ol + k * 3, none⟩) (by show gl < wr.heap.size; omega) (by simp; omega)).trans b0
            have e1 := (hch3.cell (p := ⟨gl, ol + k * 3 + 1, none⟩) (by show gl < wr.heap.size; omega) (by simp; omega)).trans b1
            have e2 := (hch3.cell (p := ⟨gl, ol + k * 3 + 2, none⟩) (by show gl < wr.heap.size; omega) (by simp; omega)).trans b2
            have hbel3 : Below w.heap.size w w3 := hbel.trans (hch3.below (by omega) (by simp))
            have h43 : Bys w3 (w.heap.size + 1) (.slice a4 inn.length c4) inn := bys_chg (E4.out ▸ HV4.out) hch3 (by simp)
            have h53 : Bys w3 (w.heap.size + 1) (.slice a5 out.length c5) out := bys_chg (E5.out ▸ HV5.out) hch3 (by simp)
            have HA3 := Lib.hid (show Apart (.slice a4 inn.length c4) (.slice a5 out.length c5) from E4.out ▸ E5.out ▸ HA.out)
            have H43 := Lib.hid h43
            have H53 := Lib.hid h53
            have HV3 := Lib.hid hv3
            have HQ3 := Lib.hid hq3
            clear b0 b1 b2 h43 h53 hv3 hq3
            have hrow3 : CRow w3 v tk := bys_crow HV3.out
            obtain ⟨av, cv, hvv⟩ := brow_form (bys_row HV3.out)
            rw [hvv] at hrow3 ⊢
            have HROW3 := Lib.hid hrow3
            clear hvv hrow3
            go_wp2_with (at_builtin; refine wpList_append_bytes rfl (.tmp 59) (.tmp 60) rfl (w.heap.size + 1) _ _ out tk rfl rfl H53.out HROW3.out (by omega) (by omega) ?_; intro a6 c6 w6 hown6 hgrow6 hat6)
            have hbel6 : Below w.heap.size w w6 := hbel3.grown hgrow6 hbel3.size (fun j hj => by have := (bys_lt H53.out hj).1; omega)
            have hq6 := qis_grown HQ3.out hgrow6 (fun e => by have := (bys_lt H53.out e).1; omega)
            have h46 := bys_grown H43.out hgrow6 HA3.out
            have hap6 := apart_new H43.out HA3.out.symm hat6
            have X := Lib.hid (show _ ∧ _ ∧ _ ∧ _ ∧ _ from ⟨hown6, hq6, h46, hap6, hbel6⟩)
            clear hown6 hgrow6 hat6 hbel6 hq6 h46 hap6
            go_wp2_with fail
            go_roundw
            case rel =>
              refine ⟨k + 1, q.drop (took n q.length), inn, out ++ tk, by omega, by go_num, ?_, X.out.2.2.1, X.out.1, X.out.2.2.2.1.symm, by rw [HIN.out, HTK.out, List.append_assoc, List.take_append_drop], by omega, X.out.2.2.2.2⟩
              have := X.out.2.1
              rw [List.length_append, HTL.out]
              simpa using this
            case measure => simp [intOf]; omega
          · have k2b : (kk == 2) = false := by simp [k2]
            go_wp2_with fail
            refine (do_any kk n l _ HQ.out (HDV.out ▸ HROW.out).row (HDV.out ▸ HO1.out) (by omega) (by omega) (by omega) (by omega)).mono ?_
            rintro e w3 ⟨v, rfl, hv3, hq3, hch3⟩
            obtain ⟨o3, hst3⟩ : ∃ o3, Queue.step kk n l q (inn.length : Int) (out.length : Int) = ⟨o3, 0, 0, q, inn.length, out.length⟩ := by
              by_cases k3 : kk = 3
              · exact ⟨q.take (took n q.length), by simp [Queue.step, k3]⟩
              · exact ⟨[], by simp [Queue.step, k1, k2, k3, k4]⟩
            rw [hst3] at hv3 hq3 ⊢
            have hs3 := hch3.size
            have e0 := (hch3.cell (p := ⟨gl, ol + k * 3, none⟩) (by show gl < wr.heap.size; omega) (by simp; omega)).trans b0
            have hbel3 : Below w.heap.size w w3 := hbel.trans (hch3.below (by omega) (by simp))
            have H43 := Lib.hid (show Bys w3 (w.heap.size + 1) (.slice a4 inn.length c4) inn from bys_chg (E4.out ▸ HV4.out) hch3 (by simp))
            have H53 := Lib.hid (show Bys w3 (w.heap.size + 1) (.slice a5 out.length c5) out from bys_chg (E5.out ▸ HV5.out) hch3 (by simp))
            have HA3 := Lib.hid (show Apart (.slice a4 inn.length c4) (.slice a5 out.length c5) from E4.out ▸ E5.out ▸ HA.out)
            have HQ3 := Lib.hid hq3
            obtain ⟨av, cv, hvv⟩ := brow_form (bys_row hv3)
            rw [hvv]
            clear b0 b1 b2 hv3 hq3 hst3 hvv k1 k2 k4
            go_wp2_with fail
            go_roundw
            case rel => exact ⟨k + 1, q, inn, out, by omega, by go_num, HQ3.out, H43.out, H53.out, HA3.out, HIN.out, by omega, hbel3⟩
            case measure => simp [intOf]; omega
    · have hro : CRow wr (.slice a4 inn.length c4) inn := bys_crow (E4.out ▸ HV4.out)
      have hrt : CRow wr (.slice a4 out.length c4) out := by
        have := crow_take hro out.length hol2
        rw [HIN.out, List.take_left'] at this
        · exact this
        · rfl
      have hr5 : BRow wr (.slice a5 out.length c5) out := bys_row (E5.out ▸ HV5.out)
      have HRT := Lib.hid hrt.row
      have HR5 := Lib.hid hr5
      have hol3 : out.length ≤ c4 := by omega
      clear hro hrt hr5
      have hqe : ((q.length : Int) == (inn.length : Int) - (out.length : Int)) = true := by rw [beq_iff_eq]; omega
      go_wp2_with fail
      refine (same_any out out _ _ wr (by omega) (by omega) HR5.out HRT.out).mono ?_
      rintro e w2 ⟨rfl, hb2⟩
      rw [decide_eq_true (rfl : out = out)]
      have HQ2 := Lib.hid (HQ.out.below hb2)
      have s2 := hb2.size
      go_wp2_with (first
        | (go_at_call 27; refine (came_is HQ2.out).mono ?_; rintro e w' ⟨rfl, rfl⟩)
        | (go_at_call 28; refine (went_is HQ2.out).mono ?_; rintro e w' ⟨rfl, rfl⟩)
        | (go_at_call 25; refine (len_is HQ2.out).mono ?_; rintro e w' ⟨rfl, rfl⟩)
        | (go_at_call 21; refine (awake25 _).mono ?_; rintro e w3 ⟨rfl, hb3⟩))
      go_ret
      exact ⟨rfl, (hbel.trans (hb2.mono hsz)).trans (hb3.mono (by omega))⟩
end Go.Proofs.Ytinabbdecmjcpaa.queueOrder
