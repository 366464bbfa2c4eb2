/- QueueOrder: for every list of steps the law returns true, and the list reads afterwards as before. -/
import Derived.Test.YtinabbdecmjcpaaRows
import Derived.WalkKit
import Derived.ProofKit
import Derived.OpenShut
import Derived.ShutString
import Derived.ChangeOld
import Derived.Below
import Derived.Test.YtinabbdecmjcpaaQueueOrderWalk
namespace Go.Proofs.Ytinabbdecmjcpaa.queueOrder
open Go.ChangeShapes Go.WideShapes Go.ChangeAt Go.RowKit
open Go.ChangeMaps (open_string shut_string)
open Go.Proofs.Ytinabbdecmjcpaa Go.Proofs.Ytinabbdecmjcpaa.Plain Go.Proofs.Ytinabbdecmjcpaa.Words Go.Proofs.Ytinabbdecmjcpaa.Hex Go.Proofs.Ytinabbdecmjcpaa.Queue
set_option linter.unusedVariables false

theorem own : ownKnob Try.prog.godebug = none := by kernel_rfl
theorem laidOut : laidOutB Try.prog = true := by kernel_rfl


set_option maxRecDepth 100000 in
theorem walk (v : Value) (len : Nat) (w : World) (h : Queue.Steps w v len) : Calls Try.prog 6 #[v] w fun e w' => e = .returned (.bool true) ∧ Below w.heap.size w w' := by
  rcases h with ⟨rfl, a, cap, rfl⟩ | ⟨g, o, cap, rfl, h0, hl, hg, hst⟩
  · have HL := Lib.hid (large_any (w := w) (v := .slice a 0 cap) (len := 0) (.inl ⟨rfl, a, cap, rfl⟩))
    go_enter Try.func6, Try.ntmps6
    go_wp2_with fail
    refine HL.out.mono ?_
    rintro e w' ⟨bb, rfl, rfl, hbb⟩
    clear hbb
    cases bb
    · go_wp2_with fail
      refine (new_any w).mono ?_
      rintro e w1 ⟨rfl, hq, hb1⟩
      have hz1 := hb1.size
      have HQ := Lib.hid hq
      clear hq
      go_wp2_with fail
      go_loopw [4, 5, 6] (fun v4 v5 i wr => v4 = .slice none 0 0 ∧ v5 = .slice none 0 0 ∧ i = .int .i64 0 ∧ w1 = wr) (fun _ _ i _ => 0)
      case atStart => exact ⟨rfl, rfl, rfl, rfl⟩
      case round =>
        obtain ⟨rfl, rfl, rfl, rfl⟩ := hrel
        go_wp2_with fail
        refine (same_any [] [] _ _ w1 (by simp) (by simp) (.inl ⟨rfl, _, _, rfl⟩) (.inl ⟨rfl, _, _, rfl⟩)).mono ?_
        rintro e w2 ⟨rfl, hb2⟩
        rw [decide_eq_true (rfl : ([] : List UInt8) = [])]
        have HQ2 := Lib.hid (HQ.out.below hb2)
        have s2 := hb2.size
        go_wp2_with (first
          | (go_at_call 27; refine (came_any HQ2.out).mono ?_; rintro e w' ⟨rfl, rfl⟩)
          | (go_at_call 28; refine (went_any HQ2.out).mono ?_; rintro e w' ⟨rfl, rfl⟩)
          | (go_at_call 25; refine (len_any HQ2.out).mono ?_; rintro e w' ⟨rfl, rfl⟩)
          | (go_at_call 21; refine (awake25 _).mono ?_; rintro e w3 ⟨rfl, hb3⟩))
        go_ret
        exact ⟨rfl, (hb1.trans (hb2.mono hz1)).trans (hb3.mono (by omega))⟩
    · go_wp2_with fail
      refine (awake25 _).mono ?_
      rintro e w2 ⟨rfl, hb2⟩
      go_wp2
      go_ret
      exact ⟨rfl, hb2⟩
  · exact walk_more g o cap len w h0 hl hg hst

set_option maxRecDepth 100000 in
theorem lifted (os : Os) (started : os.Started) (H : Type) (enc : TypeId × Value → H) :
    ReturnsInHanded {} Try.checked os 6 .any (Rows.queueOrderSpec.pre6 enc Try.prog Try.f6 Rows.queueOrderRow.domain false) (Rows.queueOrderSpec.post enc Try.prog Try.f6 false true false false) := by
  refine returnsInHanded_of_change (C := Try.checked) own started (by kernel_rfl) Try.func6
    (ChangeSpec.witness6 (enc := enc) (C := Try.checked) false ⟨#[], #[.slice none 0 0], []⟩ 8 (by kernel_rfl) (by kernel_rfl) (by kernel_rfl) (by kernel_rfl)) ?_
  intro W base args ds gs before hval0 hW hcnd _
  have hval : ∀ (j : Nat) t v, Try.f6.params[j]? = some t → args[j]? = some v → Value.okWide Try.prog W .any base t v := hval0
  have hW' := hW
  obtain ⟨p, q, hA0, hV, rfl, hfz, hnd⟩ := hW
  have hA : DataW.TrodAll enc Try.prog W 0 (fun _ => true) true Try.f6.params.toList args.toList ds p := hA0
  rw [Try.params6] at hA hval
  obtain ⟨v0, vs0, d0, ds0, p0, q0, hargs, rfl, rfl, h0, r0⟩ := trodAll_cons hA
  obtain ⟨rfl, rfl, rfl⟩ := trodAll_nil r0
  obtain rfl : args = #[v0] := by cases args; simp_all
  obtain ⟨rfl, rfl⟩ := trodVars_none hV
  have k0 := h0
  have lt0 : ∀ x ∈ p0, x.block < W.heap.size := by obtain ⟨m, hm⟩ := k0; exact DataW.trod_lt m _ _ _ hm
  obtain ⟨len, hst, hlm, aa, cc, hvv⟩ := open_steps (W := W) Try.underlying37 Try.underlying48 (by kernel_rfl) rfl rfl rfl rfl rfl rfl (okWide_slice Try.underlying37 (hval 0 37 v0 rfl rfl)) h0
  clear hA0 hval0
  refine (walk v0 len W hst).mono fun e W' ⟨he, bel⟩ => ?_
  subst he
  exact ⟨_, rfl, _, _, _, [], _, [], hW', trodAll_mk1 (shut_bool Try.underlying4 _), (trodAll_cons_mk (Below.trod laidOut (by kernel_rfl) (of_decide_eq_true (by kernel_rfl)) k0 bel lt0) trodAll_mk0), rfl, bel.frame _, fun h => by cases h⟩

theorem over : Rows.queueOrderRow.holds Try.pinned (OpenSpec.ofChange Rows.queueOrderSpec) :=
  OpenClaim.holds_of_wide 6 Try.f6 rfl rfl rfl rfl rfl rfl rfl ⟨rfl, rfl, rfl, rfl, rfl⟩ rfl rfl rfl rfl rfl (by kernel_rfl) Try.func6 (by kernel_rfl)
    (of_decide_eq_true (by kernel_rfl)) (by unfold Func.isWrapper; first | (rw [if_pos (by decide +kernel)]; kernel_rfl) | (rw [if_neg (by decide +kernel)]; exact ⟨rfl, rfl⟩))
    (fun os started H enc _ => lifted os started H enc)

theorem proved : Rows.QueueOrderSaid := over
#print axioms proved
end Go.Proofs.Ytinabbdecmjcpaa.queueOrder
