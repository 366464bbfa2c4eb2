/- LineWord: for every line the law returns true, and the line reads afterwards as before. -/
import Derived.Test.YtinabbdecmjcpaaRows
import Derived.WalkKit
import Derived.ProofKit
import Derived.OpenShut
import Derived.ShutString
import Derived.ChangeOld
import Derived.Below
import Derived.Test.YtinabbdecmjcpaaLine
namespace Go.Proofs.Ytinabbdecmjcpaa.lineWord
open Go.ChangeShapes Go.WideShapes Go.ChangeAt Go.RowKit
open Go.ChangeMaps (open_string shut_string)
open Go.Proofs.Ytinabbdecmjcpaa.Plain Go.Proofs.Ytinabbdecmjcpaa.Words Go.Proofs.Ytinabbdecmjcpaa.Line
set_option linter.unusedVariables false

theorem own : ownKnob Try.prog.godebug = none := by kernel_rfl
theorem laidOut : laidOutB Try.prog = true := by kernel_rfl

set_option maxRecDepth 100000 in
theorem walk (a0 : ByteArray) (w : World) (w0 : a0.size ≤ maxLen) :
    Calls Try.prog 7 #[.string a0] w fun e w' => e = .returned (.bool true) ∧ Below w.heap.size w w' := by
  unfold maxLen at w0
  by_cases hbig : 300 < a0.size
  · go_enter Try.func7, Try.ntmps7
    go_wp2_with fail
    refine (awake08 _).mono ?_
    rintro e w2 ⟨rfl, hb1⟩
    go_wp2
    go_ret
    exact ⟨rfl, hb1⟩
  · have h1 := Lib.hid (ref_any a0 w (by omega))
    have h2 := Lib.hid (fun W => word_any a0 W (by omega))
    have ha := Lib.hid awake08
    generalize words (L a0) = R at *
    go_enter Try.func7, Try.ntmps7
    go_wp2_with fail
    refine h1.out.mono ?_
    rintro e w1 ⟨v, b, rfl, hb1, hc1⟩
    have s1 := hb1.size
    rcases hc1 with ⟨rfl, rfl, rfl⟩ | ⟨ws, rfl, rfl, hst⟩
    · go_wp2_with (first | (go_at_call 30; refine (h2.out _).mono ?_; rintro e w2 ⟨rfl, hb2⟩; rw [show firstOf none = [] from rfl]; rw [show S [] = ⟨#[]⟩ from rfl]) | (go_at_call 29; refine (ha.out _).mono ?_; rintro e w3 ⟨rfl, hb3⟩))
      go_ret
      have s2 := hb2.size
      exact ⟨rfl, (hb1.trans (hb2.mono s1)).trans (hb3.mono (by omega))⟩
    · cases ws with
      | nil =>
        obtain ⟨a, cap, rfl⟩ : ∃ a cap, v = .slice a 0 cap := by
          rcases strs_row hst with ⟨_, a, cap, h⟩ | ⟨g, o, cap, h, _⟩
          · exact ⟨a, cap, h⟩
          · exact ⟨_, cap, h⟩
        clear hst
        go_wp2_with (first | (go_at_call 30; refine (h2.out _).mono ?_; rintro e w2 ⟨rfl, hb2⟩; rw [show firstOf (some []) = [] from rfl]; rw [show S [] = ⟨#[]⟩ from rfl]) | (go_at_call 29; refine (ha.out _).mono ?_; rintro e w3 ⟨rfl, hb3⟩))
        go_ret
        have s2 := hb2.size
        exact ⟨rfl, (hb1.trans (hb2.mono s1)).trans (hb3.mono (by omega))⟩
      | cons x l =>
        obtain ⟨g, o, cap, rfl, hg, hc⟩ : ∃ g o cap, v = .slice (some ⟨g, o, none⟩) (x :: l).length cap ∧ g < w1.heap.size ∧ ∀ i (h : i < (x :: l).length), w1.cell? ⟨g, o + i, none⟩ = some (.string (S (x :: l)[i])) := by
          rcases strs_row hst with ⟨h, _⟩ | h
          · cases h
          · exact h
        have c0 : w1.cell? ⟨g, o, none⟩ = some (.string (S x)) := hc 0 (by simp)
        clear hc hst
        have hpos : 0 < (x :: l).length := by simp
        have hx : S (firstOf (some (x :: l))) = S x := rfl
        have HX := Lib.hid hx
        clear hx
        generalize (x :: l).length = m at *
        have hne : (0 : Int) < (m : Int) := by omega
        generalize hy : S x = y at *
        go_wp2_with (first | (go_at_call 30; refine (h2.out _).mono ?_; rintro e w2 ⟨rfl, hb2⟩; rw [HX.out]) | (go_at_call 29; refine (ha.out _).mono ?_; rintro e w3 ⟨rfl, hb3⟩))
        go_ret
        have s2 := hb2.size
        exact ⟨rfl, (hb1.trans (hb2.mono s1)).trans (hb3.mono (by omega))⟩

set_option maxRecDepth 100000 in
theorem lifted (os : Os) (started : os.Started) (H : Type) (enc : TypeId × Value → H) :
    ReturnsInHanded {} Try.checked os 7 .any (Rows.lineWordSpec.pre6 enc Try.prog Try.f7 Rows.lineWordRow.domain false) (Rows.lineWordSpec.post enc Try.prog Try.f7 false true false false) := by
  refine returnsInHanded_of_change (C := Try.checked) own started (by kernel_rfl) Try.func7
    (ChangeSpec.witness6 (enc := enc) (C := Try.checked) false ⟨#[], #[.string ByteArray.empty], []⟩ 8 (by kernel_rfl) (by kernel_rfl) (by kernel_rfl) (by kernel_rfl)) ?_
  intro W base args ds gs before hval0 hW hcnd _
  have hval : ∀ (j : Nat) t v, Try.f7.params[j]? = some t → args[j]? = some v → Value.okWide Try.prog W .any base t v := hval0
  have hW' := hW
  obtain ⟨p, q, hA0, hV, rfl, hfz, hnd⟩ := hW
  have hA : DataW.TrodAll enc Try.prog W 0 (fun _ => true) true Try.f7.params.toList args.toList ds p := hA0
  rw [Try.params7] at hA hval
  obtain ⟨v0, vs0, d0, ds0, p0, q0, hargs, rfl, rfl, h0, r0⟩ := trodAll_cons hA
  obtain ⟨rfl, rfl, rfl⟩ := trodAll_nil r0
  obtain rfl : args = #[v0] := by cases args; simp_all
  obtain ⟨rfl, rfl⟩ := trodVars_none hV
  have k0 := h0
  have lt0 : ∀ x ∈ p0, x.block < W.heap.size := by obtain ⟨m, hm⟩ := k0; exact DataW.trod_lt m _ _ _ hm
  obtain ⟨a0, rfl, rfl, rfl, w0⟩ := open_string Try.underlying9 (hval 0 9 v0 rfl rfl) h0
  clear hA0 hval0
  refine (walk a0 W w0).mono fun e W' ⟨he, bel⟩ => ?_
  subst he
  exact ⟨_, rfl, _, _, _, [], _, [], hW', trodAll_mk1 (shut_bool Try.underlying4 _), (trodAll_cons_mk (Below.trod laidOut (by kernel_rfl) (of_decide_eq_true (by kernel_rfl)) k0 bel lt0) trodAll_mk0), rfl, bel.frame _, fun h => by cases h⟩

theorem over : Rows.lineWordRow.holds Try.pinned (OpenSpec.ofChange Rows.lineWordSpec) :=
  OpenClaim.holds_of_wide 7 Try.f7 rfl rfl rfl rfl rfl rfl rfl ⟨rfl, rfl, rfl, rfl, rfl⟩ rfl rfl rfl rfl rfl (by kernel_rfl) Try.func7 (by kernel_rfl)
    (of_decide_eq_true (by kernel_rfl)) (by unfold Func.isWrapper; first | (rw [if_pos (by decide +kernel)]; kernel_rfl) | (rw [if_neg (by decide +kernel)]; exact ⟨rfl, rfl⟩))
    (fun os started H enc _ => lifted os started H enc)

theorem proved : Rows.LineWordSaid := over
#print axioms proved
end Go.Proofs.Ytinabbdecmjcpaa.lineWord
