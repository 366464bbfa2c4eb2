/- The contract of the law's awake of layer 7: it returns true, and changes nothing that was there. -/
import Derived.Test.YtinabbdecmjcpaaDoorOnly
namespace Go.Proofs.YtinabbdecmjcpaaDoor.Hex
open Go.RowKit Go.Proofs.YtinabbdecmjcpaaDoor.Plain Go.Proofs.YtinabbdecmjcpaaDoor.Words Go.Proofs.YtinabbdecmjcpaaDoor.Named
set_option linter.unusedVariables false

set_option maxRecDepth 100000 in
theorem awake07 (w : World) : Calls Tryd.prog 5 #[] w fun e w' => e = .returned (.bool true) ∧ Below w.heap.size w w' := by
  have h1 := Lib.hid (bytes_any ⟨#[48, 48, 102, 102]⟩ w (by decide))
  have h2 := Lib.hid (fun W => tenant_any ⟨#[97, 45, 49]⟩ W (by decide))
  have h3 := Lib.hid (fun W => tenant_any ⟨#[49, 97]⟩ W (by decide))
  go_enter Tryd.func5, Tryd.ntmps5
  go_wp2_with fail
  refine h1.out.mono ?_
  rintro e w1 ⟨v, n, rfl, hb1, hcase⟩
  rcases hcase with ⟨h, _⟩ | ⟨l, hl, rfl, hbys⟩
  · exact absurd h (by decide)
  · have e : l = [0, 255] := by
      have : bytesOf (L ⟨#[48, 48, 102, 102]⟩) = some [0, 255] := by decide
      rw [this] at hl
      exact (Option.some.inj hl).symm
    subst e
    clear hl
    have hr := bys_row hbys
    rcases hr with ⟨h, _⟩ | ⟨g, o, cap, rfl, hg, hc⟩
    · cases h
    · have c1 : w1.cell? ⟨g, o + 1, none⟩ = some (.int .u8 255) := hc 1 (by decide)
      clear hc hbys
      go_wp2_with fail
      refine (h2.out _).mono ?_
      rintro e w2 ⟨rfl, hb2⟩
      rw [show namedB 16 smallB lowB (L ⟨#[97, 45, 49]⟩) = true by decide]
      go_wp2_with fail
      refine (h3.out _).mono ?_
      rintro e w3 ⟨rfl, hb3⟩
      rw [show namedB 16 smallB lowB (L ⟨#[49, 97]⟩) = false by decide]
      have s2 := hb2.size
      have c2 : w3.cell? ⟨g, o + 1, none⟩ = some (.int .u8 255) := (hb3.cell (p := ⟨g, o + 1, none⟩) (Nat.lt_of_lt_of_le hg s2)).trans ((hb2.cell (p := ⟨g, o + 1, none⟩) hg).trans c1)
      go_wp2
      go_ret
      have s1 := hb1.size
      exact ⟨rfl, (hb1.trans (hb2.mono s1)).trans (hb3.mono (by omega))⟩
end Go.Proofs.YtinabbdecmjcpaaDoor.Hex
