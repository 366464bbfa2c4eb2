/- NameWords: for every line the law returns true, and the line reads afterwards as before. -/
import Derived.Test.YtinabbdecmjcpaaRows
import Derived.WalkKit
import Derived.ProofKit
import Derived.OpenShut
import Derived.ShutString
import Derived.ChangeOld
import Derived.Below
import Derived.Test.YtinabbdecmjcpaaAwake07
namespace Go.Proofs.Ytinabbdecmjcpaa.nameWords
open Go.ChangeShapes Go.WideShapes Go.ChangeAt Go.RowKit
open Go.ChangeMaps (open_string shut_string)
open Go.Proofs.Ytinabbdecmjcpaa.Plain Go.Proofs.Ytinabbdecmjcpaa.Words Go.Proofs.Ytinabbdecmjcpaa.Hex
set_option linter.unusedVariables false

theorem own : ownKnob Try.prog.godebug = none := by kernel_rfl
theorem laidOut : laidOutB Try.prog = true := by kernel_rfl

set_option maxRecDepth 100000 in
theorem walk (a0 : ByteArray) (w : World) (w0 : a0.size ≤ maxLen) :
    Calls Try.prog 4 #[.string a0] w fun e w' => e = .returned (.bool true) ∧ Below w.heap.size w w' := by
  unfold maxLen at w0
  by_cases hbig : 300 < a0.size
  · go_enter Try.func4, Try.ntmps4
    go_wp2_with fail
    refine (awake07 _).mono ?_
    rintro e w2 ⟨rfl, hb1⟩
    go_wp2
    go_ret
    exact ⟨rfl, hb1⟩
  · have h1 := Lib.hid (words_any a0 w (by omega))
    have h2 := Lib.hid (fun W => ref_any a0 W (by omega))
    have hlen : ∀ ws, words (L a0) = some ws → ws.length ≤ 1000 := by
      intro ws h
      unfold words at h
      split at h
      · cases h; simp
      · have := scan_len _ _ _ _ h
        rw [L_len] at this
        simp at this
        omega
    have HL := Lib.hid hlen
    clear hlen
    go_enter Try.func4, Try.ntmps4
    go_wp2_with fail
    refine h1.out.mono ?_
    rintro e w1 ⟨v, n, rfl, hb1, hc1⟩
    go_wp2_with fail
    refine (h2.out w1).mono ?_
    rintro e w2 ⟨v', b, rfl, hb2, hc2⟩
    have s1 := hb1.size
    have s2 := hb2.size
    rcases hc1 with ⟨r1, rfl, rfl⟩ | ⟨ws, r1, rfl, hst⟩
    · rcases hc2 with ⟨r2, rfl, rfl⟩ | ⟨ws', r2, rfl, hst'⟩
      · clear r1 r2
        go_wp2_with fail
        refine (awake07 _).mono ?_
        rintro e w3 ⟨rfl, hb3⟩
        go_wp2
        go_ret
        exact ⟨rfl, (hb1.trans (hb2.mono s1)).trans (hb3.mono (by omega))⟩
      · rw [r1] at r2; cases r2
    · rcases hc2 with ⟨r2, rfl, rfl⟩ | ⟨ws', r2, rfl, hst'⟩
      · rw [r1] at r2; cases r2
      · obtain rfl : ws = ws' := by rw [r1] at r2; exact Option.some.inj r2
        have hr1 := Lib.hid (srow_below hb2 (strs_row hst))
        have hr2 := Lib.hid (strs_row hst')
        have hln := HL.out ws r1
        clear r1 r2 hst hst'
        go_wp2_with fail
        refine (texts_same ws w2 v v' (by omega) hr1.out hr2.out).mono ?_
        rintro e w3 ⟨rfl, hb3⟩
        go_wp2_with fail
        refine (awake07 _).mono ?_
        rintro e w4 ⟨rfl, hb4⟩
        have s3 := hb3.size
        go_wp2
        go_ret
        exact ⟨rfl, ((hb1.trans (hb2.mono s1)).trans (hb3.mono (by omega))).trans (hb4.mono (by omega))⟩

set_option maxRecDepth 100000 in
theorem lifted (os : Os) (started : os.Started) (H : Type) (enc : TypeId × Value → H) :
    ReturnsInHanded {} Try.checked os 4 .any (Rows.nameWordsSpec.pre6 enc Try.prog Try.f4 Rows.nameWordsRow.domain false) (Rows.nameWordsSpec.post enc Try.prog Try.f4 false true false false) := by
  refine returnsInHanded_of_change (C := Try.checked) own started (by kernel_rfl) Try.func4
    (ChangeSpec.witness6 (enc := enc) (C := Try.checked) false ⟨#[], #[.string ByteArray.empty], []⟩ 8 (by kernel_rfl) (by kernel_rfl) (by kernel_rfl) (by kernel_rfl)) ?_
  intro W base args ds gs before hval0 hW hcnd _
  have hval : ∀ (j : Nat) t v, Try.f4.params[j]? = some t → args[j]? = some v → Value.okWide Try.prog W .any base t v := hval0
  have hW' := hW
  obtain ⟨p, q, hA0, hV, rfl, hfz, hnd⟩ := hW
  have hA : DataW.TrodAll enc Try.prog W 0 (fun _ => true) true Try.f4.params.toList args.toList ds p := hA0
  rw [Try.params4] at hA hval
  obtain ⟨v0, vs0, d0, ds0, p0, q0, hargs, rfl, rfl, h0, r0⟩ := trodAll_cons hA
  obtain ⟨rfl, rfl, rfl⟩ := trodAll_nil r0
  obtain rfl : args = #[v0] := by cases args; simp_all
  obtain ⟨rfl, rfl⟩ := trodVars_none hV
  have k0 := h0
  have lt0 : ∀ x ∈ p0, x.block < W.heap.size := by obtain ⟨m, hm⟩ := k0; exact DataW.trod_lt m _ _ _ hm
  obtain ⟨a0, rfl, rfl, rfl, w0⟩ := open_string Try.underlying9 (hval 0 9 v0 rfl rfl) h0
  clear hA0 hval0
  refine (walk a0 W w0).mono fun e W' ⟨he, bel⟩ => ?_
  subst he
  exact ⟨_, rfl, _, _, _, [], _, [], hW', trodAll_mk1 (shut_bool Try.underlying4 _), (trodAll_cons_mk (Below.trod laidOut (by kernel_rfl) (of_decide_eq_true (by kernel_rfl)) k0 bel lt0) trodAll_mk0), rfl, bel.frame _, fun h => by cases h⟩

theorem over : Rows.nameWordsRow.holds Try.pinned (OpenSpec.ofChange Rows.nameWordsSpec) :=
  OpenClaim.holds_of_wide 4 Try.f4 rfl rfl rfl rfl rfl rfl rfl ⟨rfl, rfl, rfl, rfl, rfl⟩ rfl rfl rfl rfl rfl (by kernel_rfl) Try.func4 (by kernel_rfl)
    (of_decide_eq_true (by kernel_rfl)) (by unfold Func.isWrapper; first | (rw [if_pos (by decide +kernel)]; kernel_rfl) | (rw [if_neg (by decide +kernel)]; exact ⟨rfl, rfl⟩))
    (fun os started H enc _ => lifted os started H enc)

theorem proved : Rows.NameWordsSaid := over
#print axioms proved
end Go.Proofs.Ytinabbdecmjcpaa.nameWords
