/- StreamOrder: for every list of steps the law returns true, and the list reads afterwards as before. -/
import Derived.Test.YtinabbdecmjcpaaRows
import Derived.WalkKit
import Derived.ProofKit
import Derived.OpenShut
import Derived.ShutString
import Derived.ChangeOld
import Derived.Below
import Derived.Test.YtinabbdecmjcpaaStreamOrderWalk
namespace Go.Proofs.Ytinabbdecmjcpaa.streamOrder
open Go.ChangeShapes Go.WideShapes Go.ChangeAt Go.RowKit
open Go.ChangeMaps (open_string shut_string)
open Go.Proofs.Ytinabbdecmjcpaa Go.Proofs.Ytinabbdecmjcpaa.Plain Go.Proofs.Ytinabbdecmjcpaa.Words Go.Proofs.Ytinabbdecmjcpaa.Hex Go.Proofs.Ytinabbdecmjcpaa.Queue Go.Proofs.Ytinabbdecmjcpaa.Stream
set_option linter.unusedVariables false

theorem own : ownKnob Try.prog.godebug = none := by kernel_rfl
theorem laidOut : laidOutB Try.prog = true := by kernel_rfl

theorem walk (v : Value) (len : Nat) (w : World) (h : Queue.Steps w v len) : Calls Try.prog 8 #[v] w fun e w' => e = .returned (.bool true) ∧ Below w.heap.size w w' := by
  have hL := large26 h
  rcases h with ⟨rfl, a, cap, rfl⟩ | ⟨g, o, cap, rfl, h0, hl, hg, hst⟩
  · exact walk_more a cap 0 w (Nat.zero_le _) hL (fun bb _ _ i hi => absurd hi (by omega))
  · refine walk_more (some ⟨g, o, none⟩) cap len w hl hL (fun bb hbb he i hi => ?_)
    obtain ⟨k, n, dv, l, hs⟩ := hst i hi
    exact ⟨g, o, k, n, dv, l, rfl, hg, hs, (hbb he).2 g o cap rfl i hi k n dv l hs⟩

set_option maxRecDepth 100000 in
theorem lifted (os : Os) (started : os.Started) (H : Type) (enc : TypeId × Value → H) :
    ReturnsInHanded {} Try.checked os 8 .any (Rows.streamOrderSpec.pre6 enc Try.prog Try.f8 Rows.streamOrderRow.domain false) (Rows.streamOrderSpec.post enc Try.prog Try.f8 false true false false) := by
  refine returnsInHanded_of_change (C := Try.checked) own started (by kernel_rfl) Try.func8
    (ChangeSpec.witness6 (enc := enc) (C := Try.checked) false ⟨#[], #[.slice none 0 0], []⟩ 8 (by kernel_rfl) (by kernel_rfl) (by kernel_rfl) (by kernel_rfl)) ?_
  intro W base args ds gs before hval0 hW hcnd _
  have hval : ∀ (j : Nat) t v, Try.f8.params[j]? = some t → args[j]? = some v → Value.okWide Try.prog W .any base t v := hval0
  have hW' := hW
  obtain ⟨p, q, hA0, hV, rfl, hfz, hnd⟩ := hW
  have hA : DataW.TrodAll enc Try.prog W 0 (fun _ => true) true Try.f8.params.toList args.toList ds p := hA0
  rw [Try.params8] at hA hval
  obtain ⟨v0, vs0, d0, ds0, p0, q0, hargs, rfl, rfl, h0, r0⟩ := trodAll_cons hA
  obtain ⟨rfl, rfl, rfl⟩ := trodAll_nil r0
  obtain rfl : args = #[v0] := by cases args; simp_all
  obtain ⟨rfl, rfl⟩ := trodVars_none hV
  have k0 := h0
  have lt0 : ∀ x ∈ p0, x.block < W.heap.size := by obtain ⟨m, hm⟩ := k0; exact DataW.trod_lt m _ _ _ hm
  obtain ⟨len, hst, hlm, aa, cc, hvv⟩ := open_steps (W := W) Try.underlying53 Try.underlying60 (by kernel_rfl) rfl rfl rfl rfl rfl rfl (okWide_slice Try.underlying53 (hval 0 53 v0 rfl rfl)) h0
  clear hA0 hval0
  refine (walk v0 len W hst).mono fun e W' ⟨he, bel⟩ => ?_
  subst he
  exact ⟨_, rfl, _, _, _, [], _, [], hW', trodAll_mk1 (shut_bool Try.underlying4 _), (trodAll_cons_mk (Below.trod laidOut (by kernel_rfl) (of_decide_eq_true (by kernel_rfl)) k0 bel lt0) trodAll_mk0), rfl, bel.frame _, fun h => by cases h⟩

theorem over : Rows.streamOrderRow.holds Try.pinned (OpenSpec.ofChange Rows.streamOrderSpec) :=
  OpenClaim.holds_of_wide 8 Try.f8 rfl rfl rfl rfl rfl rfl rfl ⟨rfl, rfl, rfl, rfl, rfl⟩ rfl rfl rfl rfl rfl (by kernel_rfl) Try.func8 (by kernel_rfl)
    (of_decide_eq_true (by kernel_rfl)) (by unfold Func.isWrapper; first | (rw [if_pos (by decide +kernel)]; kernel_rfl) | (rw [if_neg (by decide +kernel)]; exact ⟨rfl, rfl⟩))
    (fun os started H enc _ => lifted os started H enc)

theorem proved : Rows.StreamOrderSaid := over
#print axioms proved
end Go.Proofs.Ytinabbdecmjcpaa.streamOrder
