/- The contract of the reference's Print of layer 39, of any event. -/
import Derived.Test.YtinabbdecmjcpaaGreatDoorGEvPrintF
import Derived.Test.YtinabbdecmjcpaaGreatDoorGEvPrintO
import Derived.Test.YtinabbdecmjcpaaGreatDoorGEvPrintN
namespace Go.Proofs.YtinabbdecmjcpaaGreatDoor.Ev
open Go.RowKit Go.Proofs.YtinabbdecmjcpaaGreatDoor Go.Proofs.YtinabbdecmjcpaaGreatDoor.Plain Go.Proofs.YtinabbdecmjcpaaGreatDoor.Words Go.Proofs.YtinabbdecmjcpaaGreatDoor.Named Go.Proofs.YtinabbdecmjcpaaGreatDoor.Hex Go.Proofs.YtinabbdecmjcpaaGreatDoor.Number
set_option linter.unusedVariables false

theorem print39 (e : Ev) (v : Value) (w : World) (ok : EvOk e) (hv : BRow w v e.data) : Calls Tryz.prog 23 #[evV e v] w (PrintPost e w) := by
  obtain ⟨av, cv, hvf⟩ := brow_form hv
  by_cases hk : inR e.kind = true
  rotate_left
  · have hk' : inR e.kind = false := by simpa using hk
    have hp := print_none1 e (.inl hk')
    rw [hvf]
    refine (print_out e.kind e.session e.stream e.tenant e.n e.m e.bits av e.data.length cv w hk').mono ?_
    rintro r w' ⟨rfl, hb⟩
    exact ⟨by rw [hp]; rfl, hb⟩
  obtain ⟨j, hj, a1, a2⟩ := inR_nat hk
  obtain ⟨hwne, hwl, hpl⟩ := word_ne j a1 a2
  have hwd : wordOf e.kind = wordN j := by rw [hj]; exact (wordOf_in j a1 a2).1
  have hpd : patOf e.kind = patN j := by rw [hj]; exact (wordOf_in j a1 a2).2
  have hjn : e.kind.toNat = j := by omega
  have e1 : (S (wordN j)).toList.isEmpty = false := by rw [ByteArray.toList_eq]; simpa using hwne
  have e2 : ((S (wordN j)).toList == []) = false := by rw [ByteArray.toList_eq]; simpa using hwne
  have hW : ∀ W, Calls Tryz.prog 39 #[.int .i64 e.kind] W fun r w' => r = .returned (.string (S (wordN j))) ∧ Below W.heap.size W w' := fun W => by rw [← hwd]; exact word39 e.kind W
  have hP : ∀ W, Calls Tryz.prog 42 #[.int .i64 e.kind] W fun r w' => r = .returned (.string (S (patN j))) ∧ Below W.heap.size W w' := fun W => by rw [← hpd]; exact pattern39 e.kind W
  by_cases hneg : e.session < 0 ∨ e.stream < 0 ∨ e.m < 0
  · have hp := print_none1 e (.inr hneg)
    rw [hvf]
    refine (print_neg e.kind e.session e.stream e.tenant e.n e.m e.bits av e.data.length cv w (S (wordN j)) e1 e2 hW hneg).mono ?_
    rintro r w' ⟨rfl, hb⟩
    exact ⟨by rw [hp]; rfl, hb⟩
  have h0 : 0 ≤ e.session := by omega
  have h1 : 0 ≤ e.stream := by omega
  have h2 : 0 ≤ e.m := by omega
  have htl := text_len e ok h0 h1 h2 hk
  have hbd := bare_data e
  have hod := ok.data
  have hL : ∀ W, BRow W (.slice av e.data.length cv) e.data → Calls Tryz.prog 40 #[evV e (.slice av e.data.length cv)] W fun r w' => ∃ vb, r = .returned (.tuple #[.string (S (textOf e)), evV (bare e) vb]) ∧ BRow w' vb (bare e).data ∧ Below W.heap.size W w' := fun W h => line39 e _ W hk h0 h1 h2 ok h
  have hS : ∀ W va vb, BRow W va e.data → BRow W vb (bare e).data → Calls Tryz.prog 30 #[evV e va, evV (bare e) vb] W fun r w' => r = .returned (.bool (sameB e (bare e))) ∧ Below W.heap.size W w' := fun W va vb ha hb => sameEv e (bare e) va vb W (by omega) (by omega) ha hb
  have hC : ∀ W, Calls Tryz.prog 41 #[.string (S (textOf e)), .string (S (wordN j)), .string (S (patN j))] W fun r w' => r = .returned (.int .i64 (checkOf (words (textOf e)) (wordN j) (patN j) : Nat)) ∧ Below W.heap.size W w' := fun W =>
    check08 (S (textOf e)) (S (wordN j)) (S (patN j)) W (by show (textOf e).toArray.size ≤ _; simp; omega) (by show (wordN j).toArray.size ≤ _; simp; omega) (by show (patN j).toArray.size ≤ _; simp; omega) (pat_known j)
  have hnn : ¬ (inR e.kind = false ∨ e.session < 0 ∨ e.stream < 0 ∨ e.m < 0) := by
    rintro (h | h)
    · rw [hk] at h; cases h
    · exact hneg h
  cases hsb : sameB e (bare e)
  · have hp : printOf e = none := by unfold printOf; rw [if_neg hnn, if_pos (.inl hsb)]
    rw [hsb] at hS
    rw [hvf] at hv ⊢
    refine (print_differs e.kind e.session e.stream e.tenant e.n e.m e.bits av e.data.length cv w e.data (bare e).data (S (wordN j)) (S (patN j)) (S (textOf e)) (bare e).tenant (bare e).kind (bare e).session (bare e).stream (bare e).m (bare e).n (bare e).bits (checkOf (words (textOf e)) (wordN j) (patN j)) e1 e2 h0 h1 h2 rfl hv hW hP hL hS hC).mono ?_
    rintro r w' ⟨rfl, hb⟩
    exact ⟨by rw [hp]; rfl, hb⟩
  · rw [hsb] at hS
    rw [hvf] at hv ⊢
    by_cases her : checkOf (words (textOf e)) (wordN j) (patN j) = 0
    · have hp : printOf e = some (textOf e) := by
        unfold printOf
        rw [if_neg hnn, if_neg]
        rintro (h | h)
        · rw [hsb] at h; cases h
        · rw [hjn] at h; exact h her
      refine (print_fits e.kind e.session e.stream e.tenant e.n e.m e.bits av e.data.length cv w e.data (bare e).data (S (wordN j)) (S (patN j)) (S (textOf e)) (bare e).tenant (bare e).kind (bare e).session (bare e).stream (bare e).m (bare e).n (bare e).bits (checkOf (words (textOf e)) (wordN j) (patN j)) e1 e2 her h0 h1 h2 rfl hv hW hP hL hS hC).mono ?_
      rintro r w' ⟨rfl, hb⟩
      exact ⟨by rw [hp]; rfl, hb⟩
    · have hp : printOf e = none := by
        unfold printOf
        rw [if_neg hnn, if_pos (.inr (by rw [hjn]; exact her))]
      refine (print_errs e.kind e.session e.stream e.tenant e.n e.m e.bits av e.data.length cv w e.data (bare e).data (S (wordN j)) (S (patN j)) (S (textOf e)) (bare e).tenant (bare e).kind (bare e).session (bare e).stream (bare e).m (bare e).n (bare e).bits (checkOf (words (textOf e)) (wordN j) (patN j)) e1 e2 her h0 h1 h2 rfl hv hW hP hL hS hC).mono ?_
      rintro r w' ⟨rfl, hb⟩
      exact ⟨by rw [hp]; rfl, hb⟩
end Go.Proofs.YtinabbdecmjcpaaGreatDoor.Ev
