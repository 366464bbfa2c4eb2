/- The contract of the reference's Print of layer 39, of any event. Contracts of the reference of layer 40: Check, Text, and Same of an empty setup with itself. A script's lines of which one is another one, plainly: where their text errs. No program in sight. The contract of the reference's Lines of layer 40: the lines of a script. -/
import Derived.Deep.RegionHeld3
import Derived.Deep.AppendLies
import Derived.Test.YtinabbdecmjcpaaG11
import Derived.Test.YtinabbdecmjcpaaGEvPrintO
import Derived.Test.YtinabbdecmjcpaaGEvPrintN
import Derived.Test.YtinabbdecmjcpaaG15
namespace Go.Proofs.Ytinabbdecmjcpaa.Ev
open Go.RowKit Go.Proofs.Ytinabbdecmjcpaa Go.Proofs.Ytinabbdecmjcpaa.Plain Go.Proofs.Ytinabbdecmjcpaa.Words Go.Proofs.Ytinabbdecmjcpaa.Named Go.Proofs.Ytinabbdecmjcpaa.Hex Go.Proofs.Ytinabbdecmjcpaa.Number
set_option linter.unusedVariables false

theorem print39 (e : Ev) (v : Value) (w : World) (ok : EvOk e) (hv : BRow w v e.data) : Calls Try.prog 66 #[evV e v] w (PrintPost e w) := by
  obtain ⟨av, cv, hvf⟩ := brow_form hv
  by_cases hk : inR e.kind = true
  rotate_left
  · have hk' : inR e.kind = false := by simpa using hk
    have hp := print_none1 e (.inl hk')
    rw [hvf]
    refine (print_out e.kind e.session e.stream e.tenant e.n e.m e.bits av e.data.length cv w hk').mono ?_
    rintro r w' ⟨rfl, hb⟩
    exact ⟨by rw [hp]; rfl, hb⟩
  obtain ⟨j, hj, a1, a2⟩ := inR_nat hk
  obtain ⟨hwne, hwl, hpl⟩ := word_ne j a1 a2
  have hwd : wordOf e.kind = wordN j := by rw [hj]; exact (wordOf_in j a1 a2).1
  have hpd : patOf e.kind = patN j := by rw [hj]; exact (wordOf_in j a1 a2).2
  have hjn : e.kind.toNat = j := by omega
  have e1 : (S (wordN j)).toList.isEmpty = false := by rw [ByteArray.toList_eq]; simpa using hwne
  have e2 : ((S (wordN j)).toList == []) = false := by rw [ByteArray.toList_eq]; simpa using hwne
  have hW : ∀ W, Calls Try.prog 83 #[.int .i64 e.kind] W fun r w' => r = .returned (.string (S (wordN j))) ∧ Below W.heap.size W w' := fun W => by rw [← hwd]; exact word39 e.kind W
  have hP : ∀ W, Calls Try.prog 87 #[.int .i64 e.kind] W fun r w' => r = .returned (.string (S (patN j))) ∧ Below W.heap.size W w' := fun W => by rw [← hpd]; exact pattern39 e.kind W
  by_cases hneg : e.session < 0 ∨ e.stream < 0 ∨ e.m < 0
  · have hp := print_none1 e (.inr hneg)
    rw [hvf]
    refine (print_neg e.kind e.session e.stream e.tenant e.n e.m e.bits av e.data.length cv w (S (wordN j)) e1 e2 hW hneg).mono ?_
    rintro r w' ⟨rfl, hb⟩
    exact ⟨by rw [hp]; rfl, hb⟩
  have h0 : 0 ≤ e.session := by omega
  have h1 : 0 ≤ e.stream := by omega
  have h2 : 0 ≤ e.m := by omega
  have htl := text_len e ok h0 h1 h2 hk
  have hbd := bare_data e
  have hod := ok.data
  have hL : ∀ W, BRow W (.slice av e.data.length cv) e.data → Calls Try.prog 84 #[evV e (.slice av e.data.length cv)] W fun r w' => ∃ vb, r = .returned (.tuple #[.string (S (textOf e)), evV (bare e) vb]) ∧ BRow w' vb (bare e).data ∧ Below W.heap.size W w' := fun W h => line39 e _ W hk h0 h1 h2 ok h
  have hS : ∀ W va vb, BRow W va e.data → BRow W vb (bare e).data → Calls Try.prog 85 #[evV e va, evV (bare e) vb] W fun r w' => r = .returned (.bool (sameB e (bare e))) ∧ Below W.heap.size W w' := fun W va vb ha hb => sameEv e (bare e) va vb W (by omega) (by omega) ha hb
  have hC : ∀ W, Calls Try.prog 86 #[.string (S (textOf e)), .string (S (wordN j)), .string (S (patN j))] W fun r w' => r = .returned (.int .i64 (checkOf (words (textOf e)) (wordN j) (patN j) : Nat)) ∧ Below W.heap.size W w' := fun W =>
    check08 (S (textOf e)) (S (wordN j)) (S (patN j)) W (by show (textOf e).toArray.size ≤ _; simp; omega) (by show (wordN j).toArray.size ≤ _; simp; omega) (by show (patN j).toArray.size ≤ _; simp; omega) (pat_known j)
  have hnn : ¬ (inR e.kind = false ∨ e.session < 0 ∨ e.stream < 0 ∨ e.m < 0) := by
    rintro (h | h)
    · rw [hk] at h; cases h
    · exact hneg h
  cases hsb : sameB e (bare e)
  · have hp : printOf e = none := by unfold printOf; rw [if_neg hnn, if_pos (.inl hsb)]
    rw [hsb] at hS
    rw [hvf] at hv ⊢
    refine (print_differs e.kind e.session e.stream e.tenant e.n e.m e.bits av e.data.length cv w e.data (bare e).data (S (wordN j)) (S (patN j)) (S (textOf e)) (bare e).tenant (bare e).kind (bare e).session (bare e).stream (bare e).m (bare e).n (bare e).bits (checkOf (words (textOf e)) (wordN j) (patN j)) e1 e2 h0 h1 h2 rfl hv hW hP hL hS hC).mono ?_
    rintro r w' ⟨rfl, hb⟩
    exact ⟨by rw [hp]; rfl, hb⟩
  · rw [hsb] at hS
    rw [hvf] at hv ⊢
    by_cases her : checkOf (words (textOf e)) (wordN j) (patN j) = 0
    · have hp : printOf e = some (textOf e) := by
        unfold printOf
        rw [if_neg hnn, if_neg]
        rintro (h | h)
        · rw [hsb] at h; cases h
        · rw [hjn] at h; exact h her
      refine (print_fits e.kind e.session e.stream e.tenant e.n e.m e.bits av e.data.length cv w e.data (bare e).data (S (wordN j)) (S (patN j)) (S (textOf e)) (bare e).tenant (bare e).kind (bare e).session (bare e).stream (bare e).m (bare e).n (bare e).bits (checkOf (words (textOf e)) (wordN j) (patN j)) e1 e2 her h0 h1 h2 rfl hv hW hP hL hS hC).mono ?_
      rintro r w' ⟨rfl, hb⟩
      exact ⟨by rw [hp]; rfl, hb⟩
    · have hp : printOf e = none := by
        unfold printOf
        rw [if_neg hnn, if_pos (.inr (by rw [hjn]; exact her))]
      refine (print_errs e.kind e.session e.stream e.tenant e.n e.m e.bits av e.data.length cv w e.data (bare e).data (S (wordN j)) (S (patN j)) (S (textOf e)) (bare e).tenant (bare e).kind (bare e).session (bare e).stream (bare e).m (bare e).n (bare e).bits (checkOf (words (textOf e)) (wordN j) (patN j)) e1 e2 her h0 h1 h2 rfl hv hW hP hL hS hC).mono ?_
      rintro r w' ⟨rfl, hb⟩
      exact ⟨by rw [hp]; rfl, hb⟩
end Go.Proofs.Ytinabbdecmjcpaa.Ev

namespace Go.Proofs.Ytinabbdecmjcpaa.Script
open Go.RowKit Go.Deep Go.Proofs.Ytinabbdecmjcpaa Go.Proofs.Ytinabbdecmjcpaa.Plain Go.Proofs.Ytinabbdecmjcpaa.Words Go.Proofs.Ytinabbdecmjcpaa.Named Go.Proofs.Ytinabbdecmjcpaa.Hex Go.Proofs.Ytinabbdecmjcpaa.Number Go.Proofs.Ytinabbdecmjcpaa.Queue Go.Proofs.Ytinabbdecmjcpaa.Line Go.Proofs.Ytinabbdecmjcpaa.Ev
set_option linter.unusedVariables false

/-- Do all events have a line? -/
def allP (es : List Ev) : Bool := es.all fun e => (printOf e).isSome
/-- Is it a script? -/
def scriptB (ts : List Ten) (cap sess : Int) (es : List Ev) : Bool := (checkS ts cap sess == 0) && decide (cap ≤ 2147483647) && decide (sess ≤ 2147483647) && allP es
theorem allP_step (es : List Ev) (k : Nat) (h : k < es.length) : allP (es.drop k) = ((printOf es[k]).isSome && allP (es.drop (k + 1))) := by
  rw [List.drop_eq_getElem_cons h]; rfl
theorem EvIn.load {w : World} {g o i : Nat} {e : Ev} (h : EvIn w g o i e) : ∃ a cap, CRow w (.slice a e.data.length cap) e.data ∧ w.cell? ⟨g, o + i * 8, none⟩ = some (.int .i64 e.kind) ∧ w.cell? ⟨g, o + i * 8 + 1, none⟩ = some (.int .i64 e.session) ∧ w.cell? ⟨g, o + i * 8 + 2, none⟩ = some (.int .i64 e.stream) ∧ w.cell? ⟨g, o + i * 8 + 3, none⟩ = some (.string e.tenant) ∧ w.cell? ⟨g, o + i * 8 + 4, none⟩ = some (.int .u64 (e.n : Int)) ∧ w.cell? ⟨g, o + i * 8 + 5, none⟩ = some (.int .i64 e.m) ∧ w.cell? ⟨g, o + i * 8 + 6, none⟩ = some (.int .u64 (e.bits : Int)) ∧ w.cell? ⟨g, o + i * 8 + 7, none⟩ = some (.slice a e.data.length cap) := by
  obtain ⟨dv, h0, h1, h2, h3, h4, h5, h6, h7, h8⟩ := h
  obtain ⟨a, cap, rfl⟩ := crow_form h8
  exact ⟨a, cap, h8, h0, h1, h2, h3, h4, h5, h6, h7⟩

set_option maxRecDepth 100000 in
set_option maxHeartbeats 8000000 in
theorem check42 (ts : List Ten) (cap sess : Int) (es : List Ev) (vt ve : Value) (w : World) (ht : TRow w vt ts) (hnt : ts.length ≤ 1000000) (hst : ∀ t ∈ ts, t.name.size ≤ 1000000000000) (he : ERow w ve es) (hne : es.length ≤ 1000000) (hse : ∀ e ∈ es, EvOk e) :
    Calls Try.prog 42 #[setV vt cap sess, ve] w fun r w' => r = .returned (.bool (scriptB ts cap sess es)) ∧ Below w.heap.size w w' := by
  obtain ⟨a, c, rfl⟩ := trow_form ht
  obtain ⟨a2, c2, rfl⟩ := erow_form he
  have hb1 : Below w.heap.size w (w.alloc (.cells #[.slice a ts.length c, .int .i64 cap, .int .i64 sess] 70)) := (Below.refl _ _).alloc (Nat.le_refl _) _
  have hz : (w.alloc (.cells #[.slice a ts.length c, .int .i64 cap, .int .i64 sess] 70)).heap.size = w.heap.size + 1 := by simp
  have hck := ref65 ts cap sess _ _ (ht.below hb1) hnt hst
  have HA := Lib.hid hck
  have HB := Lib.hid hb1
  have HE := Lib.hid (And.intro he hse)
  obtain ⟨R, hR⟩ : ∃ R, R = scriptB ts cap sess es := ⟨_, rfl⟩
  rw [← hR]
  unfold scriptB at hR
  have HR := Lib.hid hR
  have g1 := World.cell?_alloc_at (w := w) #[.slice a ts.length c, .int .i64 cap, .int .i64 sess] 70 w.heap.size 1 rfl
  have g2 := World.cell?_alloc_at (w := w) #[.slice a ts.length c, .int .i64 cap, .int .i64 sess] 70 w.heap.size 2 rfl
  have G1 := Lib.hid g1
  have G2 := Lib.hid g2
  clear ht hck hb1 he hse hR g1 g2
  simp only [setV] at HA
  generalize checkS ts cap sess = T at *
  obtain ⟨n, hN⟩ : ∃ n, n = es.length := ⟨_, rfl⟩
  rw [← hN] at hne HE ⊢
  have HN := Lib.hid hN
  have HZ := Lib.hid hz
  clear hN hz hst
  go_enter Try.func42, Try.ntmps42
  go_wp2_with fail
  refine HA.out.mono ?_
  rintro e w2 ⟨rfl, hb2⟩
  have g1 := keep_c hb2 G1.out
  have g2 := keep_c hb2 G2.out
  have HB2 := Lib.hid (bt HB.out hb2)
  clear hb2
  by_cases hT : T = 0
  rotate_left
  · have t : ((T : Int) != 0) = true := by rw [bne_iff_ne]; omega
    have hv : R = false := by rw [HR.out, beq_eq_false_iff_ne.2 hT]; rfl
    have HV := Lib.hid hv
    clear hv
    go_wp2
    go_ret
    exact ⟨by rw [HV.out]; rfl, HB2.out⟩
  have t : ((T : Int) != 0) = false := by rw [bne_eq_false_iff_eq]; omega
  by_cases h1 : cap ≤ 2147483647
  rotate_left
  · have t1 : decide ((2147483647 : Int) < cap) = true := decide_eq_true (by omega)
    have hv : R = false := by rw [HR.out, decide_eq_false h1]; simp
    have HV := Lib.hid hv
    clear hv
    go_wp2
    go_ret
    exact ⟨by rw [HV.out]; rfl, HB2.out⟩
  have t1 : decide ((2147483647 : Int) < cap) = false := decide_eq_false (by omega)
  by_cases h2 : sess ≤ 2147483647
  rotate_left
  · have t2 : decide ((2147483647 : Int) < sess) = true := decide_eq_true (by omega)
    have hv : R = false := by rw [HR.out, decide_eq_false h2]; simp
    have HV := Lib.hid hv
    clear hv
    go_wp2
    go_ret
    exact ⟨by rw [HV.out]; rfl, HB2.out⟩
  have t2 : decide ((2147483647 : Int) < sess) = false := decide_eq_false (by omega)
  have hv : R = allP (es.drop 0) := by rw [HR.out, decide_eq_true h1, decide_eq_true h2, hT]; simp
  have HV := Lib.hid hv
  clear hv
  go_wp2
  go_loopw [5] (fun v wr => ∃ k : Nat, k ≤ n ∧ v = .int .i64 (k : Int) ∧ Hid (Below w.heap.size w wr) ∧ Hid (R = allP (es.drop k))) (fun v _ => n - (intOf v).toNat)
  case atStart => exact ⟨0, by omega, rfl, HB2, HV⟩
  case round =>
    obtain ⟨k, hk, rfl, hb, hr⟩ := hrel
    clear g1 g2 t t1 t2
    by_cases hlt : k < n
    · have hl : k < es.length := by have := HN.out; omega
      obtain ⟨g, o, rfl, hev⟩ := erow_at HE.out.1 (by omega)
      obtain ⟨a3, c3, hcr, d0, d1, d2, d3, d4, d5, d6, d7⟩ := ((hev k es[k] (List.getElem?_eq_getElem hl)).below hb.out).load
      have hpr := print39 es[k] _ wr (HE.out.2 _ (List.getElem_mem hl)) hcr.row
      have hst := allP_step es k hl
      rw [← hr.out] at hst
      have wk : IntKind.i64.wrap ((k : Int) + 1) = (k : Int) + 1 := IntWalk.i64_in _ (by omega)
      unfold PrintPost at hpr
      simp only [evV] at hpr
      have HP := Lib.hid hpr
      have HST := Lib.hid hst
      clear hev hcr hst hpr hr
      generalize printOf es[k] = O at *
      generalize es[k].kind = x0 at *
      generalize es[k].session = x1 at *
      generalize es[k].stream = x2 at *
      generalize es[k].tenant = x3 at *
      generalize es[k].n = x4 at *
      generalize es[k].m = x5 at *
      generalize es[k].bits = x6 at *
      generalize es[k].data.length = x7 at *
      cases O with
      | none =>
        have hv : R = false := by rw [HST.out]; rfl
        have HV := Lib.hid hv
        clear hv
        go_wp2_with (go_at_call 66; refine HP.out.mono ?_; rintro e w3 ⟨rfl, hb3⟩; have X3 := Lib.hid hb3; clear hb3)
        go_ret
        exact ⟨by rw [HV.out]; rfl, bt hb.out X3.out⟩
      | some s =>
        have hv : R = allP (es.drop (k + 1)) := by rw [HST.out]; simp
        have HV := Lib.hid hv
        clear hv
        simp only [Option.getD_some, Option.isSome_some] at HP
        go_wp2_with (go_at_call 66; refine HP.out.mono ?_; rintro e w3 ⟨rfl, hb3⟩; have X3 := Lib.hid hb3; clear hb3)
        go_roundw
        case rel => exact ⟨k + 1, by omega, by go_num, Lib.hid (bt hb.out X3.out), HV⟩
        case measure => simp [intOf]; omega
    · have hv : R = true := by
        have := HN.out
        rw [hr.out, List.drop_eq_nil_of_le (by omega)]
        rfl
      have HV := Lib.hid hv
      clear hv hr
      go_wp2
      go_ret
      exact ⟨by rw [HV.out]; rfl, hb.out⟩

/-- A slice of strings. -/
def SRow (w : World) (v : Value) (ls : List ByteArray) : Prop :=
  (ls = [] ∧ ∃ a cap, v = .slice a 0 cap) ∨ (∃ g o cap, v = .slice (some ⟨g, o, none⟩) ls.length cap ∧ ∀ i (h : i < ls.length), w.cell? ⟨g, o + i, none⟩ = some (.string ls[i]))
/-- Lines, each with its end, and something behind each. -/
def textL (ls : List ByteArray) (b : List UInt8) : List UInt8 := ls.flatMap fun l => L l ++ 10 :: b
theorem textL_snoc (ls : List ByteArray) (l : ByteArray) (b : List UInt8) : textL (ls ++ [l]) b = textL ls b ++ (L l ++ 10 :: b) := by simp [textL]
theorem textL_take (ls : List ByteArray) (b : List UInt8) (k : Nat) : (textL (ls.take k) b).length ≤ (textL ls b).length := by
  have h : textL ls b = textL (ls.take k) b ++ textL (ls.drop k) b := by
    unfold textL
    rw [← List.flatMap_append, List.take_append_drop]
  rw [h]
  simp
set_option maxRecDepth 100000 in
set_option maxHeartbeats 4000000 in
theorem text46 (ls : List ByteArray) (b : ByteArray) (v : Value) (w : World) (h : SRow w v ls) (hn : ls.length ≤ 1000000000000) (hl : (textL ls (L b)).length ≤ 1000000000000) :
    Calls Try.prog 46 #[v, .string b] w fun e w' => e = .returned (.string (S (textL ls (L b)))) ∧ w = w' := by
  have hform : ∃ a cap, v = .slice a ls.length cap := by
    rcases h with ⟨rfl, a, cap, rfl⟩ | ⟨g, o, cap, rfl, _⟩
    · exact ⟨_, _, rfl⟩
    · exact ⟨_, _, rfl⟩
  obtain ⟨a, cap, rfl⟩ := hform
  have H := Lib.hid h
  obtain ⟨n, hN⟩ : ∃ n, n = ls.length := ⟨_, rfl⟩
  rw [← hN] at hn H ⊢
  have HN := Lib.hid hN
  have HL := Lib.hid hl
  clear h hN hl
  go_enter Try.func46, Try.ntmps46
  go_wp2
  go_loop [5, 6] (fun u v => ∃ (k : Nat) (x : ByteArray), k ≤ n ∧ v = .int .i64 (k : Int) ∧ u = .string x ∧ Hid (x = S (textL (ls.take k) (L b)))) (fun _ v => n - (intOf v).toNat)
  case atStart => exact ⟨0, ⟨#[]⟩, by omega, rfl, rfl, Lib.hid rfl⟩
  case round =>
    obtain ⟨k, x, hk, rfl, rfl, hx⟩ := hrel
    have hxs : x.size ≤ 1000000000000 := by
      rw [hx.out]
      show (textL (ls.take k) (L b)).toArray.size ≤ _
      have := textL_take ls (L b) k
      have := HL.out
      simp
      omega
    by_cases hlt : k < n
    · have hl : k < ls.length := by have := HN.out; omega
      have hat : ∃ g o, a = some ⟨g, o, none⟩ ∧ w.cell? ⟨g, o + k, none⟩ = some (.string ls[k]) := by
        rcases H.out with ⟨rfl, _⟩ | ⟨g, o, cap', e, h⟩
        · simp at hl
        · cases e
          exact ⟨g, o, rfl, h k hl⟩
      obtain ⟨g, o, rfl, c0⟩ := hat
      have hsn : textL (ls.take (k + 1)) (L b) = textL (ls.take k) (L b) ++ (L ls[k] ++ 10 :: L b) := by
        rw [List.take_succ_eq_append_getElem hl, textL_snoc]
      have hle := textL_take ls (L b) (k + 1)
      rw [hsn, List.length_append, List.length_append, List.length_cons, L_len, L_len] at hle
      have hL := HL.out
      have hks : ls[k].size ≤ 1000000000000 := by omega
      have hbs : b.size ≤ 1000000000000 := by omega
      have HSN := Lib.hid hsn
      have wk : IntKind.i64.wrap ((k : Int) + 1) = (k : Int) + 1 := IntWalk.i64_in _ (by omega)
      clear hsn hle hL
      generalize ls[k] = y at *
      go_wp2
      go_round
      case rel =>
        refine ⟨k + 1, _, by omega, by go_num, rfl, Lib.hid ?_⟩
        rw [HSN.out, hx.out]
        show S (textL (ls.take k) (L b)) ++ y ++ S [10] ++ b = _
        have e1 : y = S (L y) := (S_L y).symm
        have e2 : b = S (L b) := (S_L b).symm
        generalize L y = ly at *
        generalize L b = lb at *
        rw [e1, e2, append_S, append_S, append_S]
        simp
      case measure => simp [intOf]; omega
    · obtain rfl : k = n := by omega
      have hv : x = S (textL ls (L b)) := by
        have := HN.out
        rw [hx.out, List.take_of_length_le (by omega)]
      subst hv
      clear hx
      go_wp2
      go_ret
      exact ⟨rfl, rfl⟩
set_option maxRecDepth 100000 in
set_option maxHeartbeats 4000000 in
theorem same47e (w : World) : Calls Try.prog 47 #[setV (.slice none 0 0) 0 0, setV (.slice none 0 0) 0 0] w fun e w' => e = .returned (.bool true) ∧ Below w.heap.size w w' := by
  go_enter Try.func47, Try.ntmps47
  go_wp2
  refine wp_loop_rounds 1 ?_
  rw [rounds_succ]
  go_wp2
  go_ret
  exact ⟨rfl, ((Below.refl _ _).alloc (Nat.le_refl _) _).alloc (by simp) _⟩
end Go.Proofs.Ytinabbdecmjcpaa.Script

namespace Go.Proofs.Ytinabbdecmjcpaa.Script
open Go.Proofs.Ytinabbdecmjcpaa Go.Proofs.Ytinabbdecmjcpaa.Plain Go.Proofs.Ytinabbdecmjcpaa.Words Go.Proofs.Ytinabbdecmjcpaa.Named Go.Proofs.Ytinabbdecmjcpaa.Hex Go.Proofs.Ytinabbdecmjcpaa.Number Go.Proofs.Ytinabbdecmjcpaa.Ev
open Go.Lib (decDigits)
set_option linter.unusedVariables false

/-! ### How long lines are -/
def sum1 (ws : List (List UInt8)) : Nat := (ws.map fun w => w.length + 1).sum
theorem join_sum : ∀ ws : List (List UInt8), (join ws).length ≤ sum1 ws
  | [] => by simp [join]
  | [w] => by simp [join, sum1]
  | w :: x :: ws => by
    have := join_sum (x :: ws)
    rw [join_cons, List.length_append, List.length_cons]
    show _ ≤ (w.length + 1) + sum1 (x :: ws)
    omega
def bnd (d : Nat) : Slot → Nat
  | .data => 2 * d + 2
  | _ => 101
theorem getT_bnd (e : Ev) (hf : Fits e) (ht : e.tenant.size ≤ 100) (h0 : 0 ≤ e.session) (h1 : 0 ≤ e.stream) (h2 : 0 ≤ e.m) (s : Slot) : (getT e s).length + 1 ≤ bnd e.data.length s := by
  have f0 := hf.session
  have f1 := hf.stream
  have f2 := hf.m
  cases s
  · have := dec_len e.session.toNat (by omega); show (decDigits e.session.toNat).length + 1 ≤ 101; omega
  · have := dec_len e.stream.toNat (by omega); show (decDigits e.stream.toNat).length + 1 ≤ 101; omega
  · have := dec_len e.m.toNat (by omega); show (decDigits e.m.toNat).length + 1 ≤ 101; omega
  · show (L e.tenant).length + 1 ≤ 101; rw [L_len]; omega
  · have := dec_len e.n hf.n; show (decDigits e.n).length + 1 ≤ 101; omega
  · have := dec_len e.bits hf.bits; show (decDigits e.bits).length + 1 ≤ 101; omega
  · show (hexOf e.data).length + 1 ≤ 2 * e.data.length + 2
    unfold hexOf
    split
    · simp
    · rw [hexs_len]; omega
theorem slots_sum (e : Ev) (hf : Fits e) (ht : e.tenant.size ≤ 100) (h0 : 0 ≤ e.session) (h1 : 0 ≤ e.stream) (h2 : 0 ≤ e.m) : ∀ ss : List Slot, sum1 (ss.map (getT e)) ≤ (ss.map (bnd e.data.length)).sum
  | [] => by simp [sum1]
  | s :: ss => by
    have := slots_sum e hf ht h0 h1 h2 ss
    have := getT_bnd e hf ht h0 h1 h2 s
    show ((getT e s).length + 1) + sum1 (ss.map (getT e)) ≤ bnd e.data.length s + (ss.map (bnd e.data.length)).sum
    omega
theorem slots_bnd (k d : Nat) : ((slotsN k).map (bnd d)).sum ≤ 303 + (2 * d + 2) := by
  unfold slotsN
  split <;> simp [bnd] <;> omega
theorem ev_len (e : Ev) (l : List UInt8) (hf : Fits e) (ht : e.tenant.size ≤ 100) (h : printOf e = some l) : l.length ≤ 400 + 2 * e.data.length := by
  obtain ⟨hr, h0, h1, h2, hb, hc, rfl⟩ := print_parts e l h
  obtain ⟨j, hj, j1, j2⟩ := inR_nat hr
  have hjn : e.kind.toNat = j := by omega
  obtain ⟨_, hw, _⟩ := word_ne j j1 j2
  unfold textOf
  rw [hjn]
  have a := join_sum (wordN j :: (slotsN j).map (getT e))
  have b : sum1 (wordN j :: (slotsN j).map (getT e)) = ((wordN j).length + 1) + sum1 ((slotsN j).map (getT e)) := by simp [sum1]
  have c := slots_sum e hf ht h0 h1 h2 (slotsN j)
  have d := slots_bnd j e.data.length
  omega
def dsum (es : List Ev) : Nat := (es.map fun e => e.data.length).sum
theorem lgAux_sum : ∀ (es : List Ev) (n : Nat), lgAux n es = false → n ≤ 5000 → n + dsum es ≤ 5000
  | [], n, _, hn => by simpa [dsum] using hn
  | f :: es, n, h, hn => by
    unfold lgAux at h
    split at h
    · cases h
    · have := lgAux_sum es _ h (by omega)
      show n + (f.data.length + dsum es) ≤ 5000
      omega
theorem large_sum (es : List Ev) (h : largeB es = false) : dsum es ≤ 5000 := by
  have hl := (large_small es h).1
  unfold largeB at h
  rw [Bool.or_eq_false_iff, List.take_of_length_le hl] at h
  have := lgAux_sum es 0 h.1 (by omega)
  omega
theorem evs_sum : ∀ es : List Ev, (∀ e ∈ es, Fits e ∧ e.tenant.size ≤ 100 ∧ (printOf e).isSome = true) → sum1 (es.map evL) ≤ 401 * es.length + 2 * dsum es
  | [], _ => by simp [sum1]
  | e :: es, h => by
    obtain ⟨hf, ht, hp⟩ := h e (by simp)
    obtain ⟨l, hl⟩ := Option.isSome_iff_exists.1 hp
    have h1 := ev_len e l hf ht hl
    have h2 := evs_sum es (fun x hx => h x (by simp [hx]))
    have hev : evL e = l := by unfold evL; rw [hl]; rfl
    show ((evL e).length + 1) + sum1 (es.map evL) ≤ 401 * (es.length + 1) + 2 * (e.data.length + dsum es)
    rw [hev]
    omega
theorem sum1_app (a b : List (List UInt8)) : sum1 (a ++ b) = sum1 a + sum1 b := by simp [sum1]
theorem sum1_set : ∀ (ls : List (List UInt8)) (i : Nat) (x : List UInt8), sum1 (ls.set i x) ≤ sum1 ls + (x.length + 1)
  | [], i, x => by simp [sum1]
  | l :: ls, 0, x => by
    show (x.length + 1) + sum1 ls ≤ ((l.length + 1) + sum1 ls) + (x.length + 1)
    omega
  | l :: ls, i + 1, x => by
    have := sum1_set ls i x
    show (l.length + 1) + sum1 (ls.set i x) ≤ ((l.length + 1) + sum1 ls) + (x.length + 1)
    omega
theorem text_sum : ∀ ls : List (List UInt8), (textL (ls.map S) []).length = sum1 ls
  | [] => rfl
  | l :: ls => by
    have := text_sum ls
    show ((L (S l) ++ [10]) ++ textL (ls.map S) []).length = (l.length + 1) + sum1 ls
    rw [List.length_append, this, List.length_append]
    rfl

/-! ### Where it errs -/
def ten0 : Ten := ⟨S [97], [107]⟩
theorem ten0_named : namedB 16 smallB lowB (L ten0.name) = true := by decide +kernel
theorem no10_ev (e : Ev) (hf : Fits e) (hp : (printOf e).isSome = true) : 10 ∉ evL e := by
  obtain ⟨l, hl⟩ := Option.isSome_iff_exists.1 hp
  have hev : evL e = l := by unfold evL; rw [hl]; rfl
  rw [hev]
  obtain ⟨hr, h0, h1, h2, hb, hc, rfl⟩ := print_parts e l hl
  obtain ⟨xs, hw, _⟩ := check_zero _ _ _ hc
  exact no10_words _ _ hw
theorem no10_lines (ts : List Ten) (cap sess : Nat) (es : List Ev) (ht : ∀ t ∈ ts, namedB 16 smallB lowB (L t.name) = true) (he : ∀ e ∈ es, Fits e ∧ (printOf e).isSome = true) : ∀ l ∈ linesL ts cap sess es, 10 ∉ l := fun l hl => by
  unfold linesL at hl
  rcases List.mem_append.1 hl with hl | hl
  · rcases List.mem_append.1 hl with hl | hl
    · obtain ⟨t, ht1, rfl⟩ := List.mem_map.1 hl
      exact no10_ten t (ht t ht1)
    · simp at hl
      rcases hl with rfl | rfl
      · exact no10_words _ _ (words_cap cap)
      · exact no10_words _ _ (words_ses sess)
  · obtain ⟨e, he1, rfl⟩ := List.mem_map.1 hl
    exact no10_ev e (he e he1).1 (he e he1).2
theorem withB_nil (ls : List (List UInt8)) : withB ls [] = ls.map lnS := by
  induction ls with
  | nil => rfl
  | cons l ls ih =>
    show lnS l :: withB ls [] = lnS l :: ls.map lnS
    rw [ih]
theorem textL_S (ls : List (List UInt8)) (b : List UInt8) : textL (ls.map S) b = ls.flatMap fun l => l ++ 10 :: b := by
  unfold textL
  rw [List.flatMap_map]
theorem err_text (ts : List Ten) (cap sess : Nat) (es : List Ev) (ht : ∀ t ∈ ts, namedB 16 smallB lowB (L t.name) = true) (hc : cap ≤ 2147483647) (hs : sess ≤ 2147483647) (he : ∀ e ∈ es, Fits e ∧ (printOf e).isSome = true) (i : Nat) (hi : i < (linesL ts cap sess es).length) :
    (∀ k, ErrAt (textL (((linesL ts cap sess es).set i wWhat).map S) []) k → k = i + 1) ∧ ∀ ys st', ys.map L = linesOf (textL (((linesL ts cap sess es).set i wWhat).map S) []) → foldO ys rd0 ≠ some st' := by
  have hf := fold_lines [] (by simp) ts cap sess es ht hc hs he
  have hn := no10_lines ts cap sess es ht he
  generalize linesL ts cap sess es = ls at *
  have hset : ls.set i wWhat = ls.take i ++ wWhat :: ls.drop (i + 1) := List.set_eq_take_append_cons_drop.trans (by rw [if_pos hi])
  have hlin : linesOf (textL ((ls.set i wWhat).map S) []) = ((ls.take i).map lnS ++ lnS wWhat :: (ls.drop (i + 1)).map lnS).map L := by
    rw [textL_S]
    have := lines_text [] (by simp) (ls.set i wWhat) (fun l hl => by
      rw [hset] at hl
      rcases List.mem_append.1 hl with hl | hl
      · exact hn l (List.mem_of_mem_take hl)
      · rcases List.mem_cons.1 hl with rfl | hl
        · decide
        · exact hn l (List.mem_of_mem_drop hl))
    rw [withB_nil, hset, List.map_append, List.map_cons] at this
    rw [hset]
    exact this
  rw [withB_nil, ← List.take_append_drop i ls, List.map_append] at hf
  obtain ⟨s1, h1, _⟩ := fold_pre _ _ _ _ hf
  have := err_at _ ((ls.take i).map lnS) ((ls.drop (i + 1)).map lnS) (lnS wWhat) s1 hlin.symm h1 (by rw [lineOf_lnS]; exact take_what s1)
  have hl : ((ls.take i).map lnS).length = i := by simp; omega
  rw [hl] at this
  exact this
end Go.Proofs.Ytinabbdecmjcpaa.Script

namespace Go.Proofs.Ytinabbdecmjcpaa.Script
open Go.RowKit Go.Deep Go.Proofs.Ytinabbdecmjcpaa Go.Proofs.Ytinabbdecmjcpaa.Plain Go.Proofs.Ytinabbdecmjcpaa.Words Go.Proofs.Ytinabbdecmjcpaa.Named Go.Proofs.Ytinabbdecmjcpaa.Hex Go.Proofs.Ytinabbdecmjcpaa.Number Go.Proofs.Ytinabbdecmjcpaa.Queue Go.Proofs.Ytinabbdecmjcpaa.Line Go.Proofs.Ytinabbdecmjcpaa.Ev
open Go.Lib (decDigits)
set_option linter.unusedVariables false

def strs (l : List (List UInt8)) : List Value := l.map fun x => .string (S x)
theorem strs_snoc (l : List (List UInt8)) (x : List UInt8) : strs (l ++ [x]) = strs l ++ [.string (S x)] := by simp [strs]
theorem own_base {w w' : World} {base base' e size n : Nat} {v : Value} {xs : List Value} (h : w.ownsRow base e size v n xs) (hb : Below base' w w') (hl : ∀ g, v.ownBlock = some g → g < base') : w'.ownsRow base e size v n xs := by
  obtain ⟨h1, h2⟩ := h
  refine ⟨h1, ?_⟩
  rcases h2 with h2 | ⟨g, cap, cur, rfl, hB, hg, r⟩
  · exact .inl h2
  · exact .inr ⟨g, cap, cur, rfl, hB, (hb.block g (hl g rfl)).trans hg, r⟩
theorem own_keep {w w' : World} {base e size n : Nat} {v : Value} {xs : List Value} (h : w.ownsRow base e size v n xs) (hb : Below w.heap.size w w') : w'.ownsRow base e size v n xs := own_base h hb (fun g hg => (World.ownsRow.lt h g hg).2)
theorem grow_below {W0 w w' : World} {base e size n : Nat} {v : Value} {xs : List Value} (hb : Below base W0 w) (h : w.ownsRow base e size v n xs) (hg : w.grownBy w' v.ownBlock) (hl : base ≤ w.heap.size) : Below base W0 w' :=
  hb.grown hg hl (fun k hk => (World.ownsRow.lt h k hk).1)

theorem tenS (nm : ByteArray) (hx : List UInt8) : (⟨#[116, 101, 110, 97, 110, 116, 32]⟩ : ByteArray) ++ nm ++ ⟨#[32]⟩ ++ S hx = S (wTen ++ 32 :: (L nm ++ 32 :: hx)) := by
  show S [116, 101, 110, 97, 110, 116, 32] ++ nm ++ S [32] ++ S hx = _
  have e1 : nm = S (L nm) := (S_L nm).symm
  generalize L nm = ly at *
  rw [e1, append_S, append_S, append_S]
  simp [wTen]
theorem capS (l : List UInt8) : (⟨#[99, 97, 112, 97, 99, 105, 116, 121, 32]⟩ : ByteArray) ++ S l = S (wCap ++ 32 :: l) := by
  show S [99, 97, 112, 97, 99, 105, 116, 121, 32] ++ S l = _
  rw [append_S]
  rfl
theorem sesS (l : List UInt8) : (⟨#[115, 101, 115, 115, 105, 111, 110, 115, 32]⟩ : ByteArray) ++ S l = S (wSes ++ 32 :: l) := by
  show S [115, 101, 115, 115, 105, 111, 110, 115, 32] ++ S l = _
  rw [append_S]
  rfl
/-- One append of some elements to a row of the call's own, as a step of a region that draws. -/
theorem step_append_two {ops : Array Oper} {o : Oper} {a : Act} {K : Act → World → Prop} {Q : Exit → Act → World → Prop} {E : Prop} {w : World} (hgd : o.guard = none) (s x : Operand) (t e : TypeId)
    (ho : o.op = .call { callee := .builtin .append, args := #[s, x], argTypes := #[t, t] }) (base : Nat) (i : TypeInfo) (z : Value) (size bytes : Nat) (ht : Try.prog.underlying t = some (.slice e)) (hi : Try.prog.info? e = some i) (hz : i.zero = some z)
    (hsize : i.size = size) (hby : i.bytes = bytes) (hzs : z.cells.size = size) (hsz : 0 < size) (v : Value) (n : Nat) (xs : List Value) (hs : a.eval s = v) (hown : w.ownsRow base e size v n xs) (ad : Addr) (news : List Value) (hx : a.eval x = .slice (some ad) 2 2)
    (hl : news.length = 2 * size) (hnews : ∀ j u, news[j]? = some u → w.cell? (ad.add j) = some u) (h1 : ∀ u ∈ news, u.oneCell' = true) (h63 : n + 2 ≤ 1000000) (hbyt : bytes ≤ 1000) (hbase : base ≤ w.heap.size)
    (h : ∀ (g' cap' : Nat) (w' : World), w'.ownsRow base e size (.slice (some ⟨g', 0, none⟩) (n + 2) cap') (n + 2) (xs ++ news) → w.grownBy w' v.ownBlock → K (a.put o.dst (.slice (some ⟨g', 0, none⟩) (n + 2) cap')) w') :
    if Region.wanted o (yielded ops a.tmps) = true then Oper.wp Try.prog o a w K Q else E := by
  have hbb : (n + 2) * bytes ≤ 140737488355328 := Nat.le_trans (Nat.mul_le_mul h63 hbyt) (by decide)
  exact step_append_lies w hgd s x t ho base e i z size bytes ht hi hz hsize hby hzs hsz v n xs hs hown ad 2 2 news hx hl hnews h1 (by decide) (by unfold maxLen; omega) hbb hbase _ rfl (fun g cap w' h2 h3 _ _ => h g cap w' h2 h3)
theorem own_weak {w : World} {base base' e size n : Nat} {v : Value} {xs : List Value} (h : w.ownsRow base e size v n xs) (hb : base' ≤ base) : w.ownsRow base' e size v n xs := by
  obtain ⟨h1, h2⟩ := h
  refine ⟨h1, ?_⟩
  rcases h2 with h2 | ⟨g, cap, cur, rfl, hB, r⟩
  · exact .inl h2
  · exact .inr ⟨g, cap, cur, rfl, by omega, r⟩
theorem far_c {W w5 : World} {base e size n b i : Nat} {v u : Value} {xs : List Value} (h : W.ownsRow base e size v n xs) (hg : W.grownBy w5 v.ownBlock) (hb : b < base) (hc : W.cell? ⟨b, i, none⟩ = some u) : w5.cell? ⟨b, i, none⟩ = some u :=
  (hg.cell_far ⟨b, i, none⟩ (World.block_lt_of_cell? _ _ hc) (fun e => by have := (World.ownsRow.lt h b e.symm).1; omega)).trans hc
set_option maxRecDepth 100000 in
set_option maxHeartbeats 8000000 in
theorem lines44 (ts : List Ten) (cap sess : Nat) (es : List Ev) (vt ve : Value) (w : World) (ht : TRow w vt ts) (hnt : ts.length ≤ 1000) (hst : ∀ t ∈ ts, t.name.size ≤ 1000000 ∧ t.key.length ≤ 1000000) (hc : cap ≤ 2147483647) (hs : sess ≤ 2147483647) (he : ERow w ve es) (hne : es.length ≤ 1000000) (hse : ∀ e ∈ es, EvOk e) :
    Calls Try.prog 44 #[setV vt cap sess, ve] w fun r w' => ∃ v, r = .returned v ∧ w'.ownsRow w.heap.size 9 1 v (linesL ts cap sess es).length (strs (linesL ts cap sess es)) ∧ Below w.heap.size w w' := by
  obtain ⟨a, c, rfl⟩ := trow_form ht
  obtain ⟨a2, c2, rfl⟩ := erow_form he
  obtain ⟨i0, hi, hz0, hz1, hz2⟩ := info_parts info9
  have hb1 : Below w.heap.size w (w.alloc (.cells #[.slice a ts.length c, .int .i64 cap, .int .i64 sess] 70)) := (Below.refl _ _).alloc (Nat.le_refl _) _
  have hz : (w.alloc (.cells #[.slice a ts.length c, .int .i64 cap, .int .i64 sess] 70)).heap.size = w.heap.size + 1 := by simp
  have g0 := World.cell?_alloc_at (w := w) #[.slice a ts.length c, .int .i64 cap, .int .i64 sess] 70 w.heap.size 0 rfl
  have g1 := World.cell?_alloc_at (w := w) #[.slice a ts.length c, .int .i64 cap, .int .i64 sess] 70 w.heap.size 1 rfl
  have g2 := World.cell?_alloc_at (w := w) #[.slice a ts.length c, .int .i64 cap, .int .i64 sess] 70 w.heap.size 2 rfl
  have HT := Lib.hid (And.intro (ht.below hb1) hst)
  have HE := Lib.hid (And.intro (he.below hb1) hse)
  have HB := Lib.hid hb1
  have HZ := Lib.hid hz
  have G := Lib.hid (And.intro g0 (And.intro g1 g2))
  obtain ⟨n, hN⟩ : ∃ n, n = ts.length := ⟨_, rfl⟩
  obtain ⟨ne, hNE⟩ : ∃ n, n = es.length := ⟨_, rfl⟩
  rw [← hN] at hnt HT HB HZ G HE ⊢
  rw [← hNE] at hne HE ⊢
  have HN := Lib.hid hN
  have HNE := Lib.hid hNE
  clear ht he hb1 hz g0 g1 g2 hst hse hN hNE
  go_enter Try.func44, Try.ntmps44
  go_wp2
  generalize w.alloc (.cells #[.slice a n c, .int .i64 cap, .int .i64 sess] 70) = W0 at *
  generalize hbb : w.heap.size = b at *
  have HBB := Lib.hid hbb
  clear hbb
  go_loopw [5, 6] (fun v i wr => ∃ (k : Nat) (x : Option Addr) (y : Nat), k ≤ n ∧ i = .int .i64 (k : Int) ∧ v = .slice x k y ∧ Hid (wr.ownsRow (b + 1) 9 1 (.slice x k y) k (strs ((ts.take k).map tenL))) ∧ Hid (Below (b + 1) W0 wr)) (fun _ i _ => n - (intOf i).toNat)
  case atStart => exact ⟨0, none, 0, by omega, rfl, rfl, Lib.hid (World.ownsRow_nil _ _ _ _), Lib.hid (by rw [← HZ.out]; exact Below.refl _ _)⟩
  case round =>
    obtain ⟨k, x, y, hk, rfl, rfl, hown, hbel⟩ := hrel
    have hB : Below W0.heap.size W0 wr := by rw [HZ.out]; exact hbel.out
    have q0 := keep_c hB G.out.1
    have q1 := keep_c hB G.out.2.1
    have q2 := keep_c hB G.out.2.2
    have hwz : b + 1 ≤ wr.heap.size := by have := hB.size; rw [HZ.out] at this; exact this
    by_cases hlt : k < n
    · have hl : k < ts.length := by have := HN.out; omega
      obtain ⟨g, o, rfl, hcap, hten⟩ := trow_at HT.out.1 (by omega)
      obtain ⟨c0, kv, c1, hcr⟩ := (hten k ts[k] (List.getElem?_eq_getElem hl)).below hB
      obtain ⟨a1, cc, rfl⟩ := crow_form hcr
      have hg1 : g < wr.heap.size := World.block_lt_of_cell? _ _ c0
      have hg2 : g < b + 1 := by
        have := World.block_lt_of_cell? _ _ (hten k ts[k] (List.getElem?_eq_getElem hl)).1
        rw [HZ.out] at this
        exact this
      have hsz := HT.out.2 ts[k] (List.getElem_mem hl)
      have hhx := refhex_any ts[k].key
      have hsn : (ts.take (k + 1)).map tenL = (ts.take k).map tenL ++ [tenL ts[k]] := by rw [List.take_succ_eq_append_getElem hl, List.map_append]; rfl
      have HSN := Lib.hid hsn
      have HX := Lib.hid hhx
      have HCR := Lib.hid hcr
      have HTL : Hid (tenL ts[k] = wTen ++ 32 :: (L ts[k].name ++ 32 :: hexOf ts[k].key)) := Lib.hid rfl
      have hhl : (hexOf ts[k].key).length ≤ 2000001 := by unfold hexOf; split; simp; rw [hexs_len]; omega
      clear hsn hhx hten hcr
      generalize tenL ts[k] = tl at *
      generalize hexOf ts[k].key = hx at *
      generalize ts[k].name = nm at *
      generalize ts[k].key = ky at *
      have wk : IntKind.i64.wrap ((k : Int) + 1) = (k : Int) + 1 := IntWalk.i64_in _ (by omega)
      have k0 : (0 : Int) ≤ (k : Int) := by omega
      have k1 : (k : Int) < (n : Int) := by omega
      go_wp2_with fail
      have s1 : ¬9223372036854775807 < 7 + nm.size := by omega
      have s2 : ¬9223372036854775807 < 7 + nm.size + 1 := by omega
      have s3 : ¬9223372036854775807 < 7 + nm.size + 1 + hx.length := by omega
      go_region_held3 (fun w' => w'.cell? ⟨b, 0, none⟩ = some (.slice (some ⟨g, o, none⟩) n c) ∧ w'.cell? ⟨g, o + k * 2, none⟩ = some (.string nm) ∧ w'.cell? ⟨g, o + k * 2 + 1, none⟩ = some (.slice a1 ky.length cc))
        (first | go_keep | exact ⟨keep_c hb3 q0, keep_c hb3 c0, keep_c hb3 c1⟩ | exact ⟨far_c (own_keep hown.out (bt hb3 (b_alloc _ _))) hgrow5 (by omega) (keep_c (bt hb3 (b_alloc _ _)) q0), far_c (own_keep hown.out (bt hb3 (b_alloc _ _))) hgrow5 (by omega) (keep_c (bt hb3 (b_alloc _ _)) c0), far_c (own_keep hown.out (bt hb3 (b_alloc _ _))) hgrow5 (by omega) (keep_c (bt hb3 (b_alloc _ _)) c1)⟩)
        (first
          | (go_at_call 14; refine (HX.out _ _ (by omega) (by exact HCR.out.row)).mono ?_; rintro e w3 ⟨rfl, hb3'⟩; have hb3 := bt ((Below.refl _ wr).drew) hb3'; clear hb3')
          | (refine step_append_one (by rfl) (.tmp 17) (.tmp 34) 31 9 (by rfl) (b + 1) i0 _ 1 16 Try.underlying31 hi hz0 hz1 hz2 rfl (by decide) _ k (strs ((ts.take k).map tenL)) (by rfl) (by exact World.ownsRow.alloc (own_keep hown.out hb3) _) ⟨_, 0, none⟩ [.string (⟨#[116, 101, 110, 97, 110, 116, 32]⟩ ++ nm ++ ⟨#[32]⟩ ++ S hx)] (by rfl) rfl (by exact newN _ _ _ _ rfl) (by simp [Value.oneCell']) (by omega) (by decide) (by have := hb3.size; simp at this ⊢; omega) ?_; intro g' cap' w5 hown5 hgrow5 hat5))
      all_goals
        have hbel5 := grow_below (below_tr (hb3.mono hwz) hbel.out |>.alloc (by have := hb3.size; omega) _) (World.ownsRow.alloc (own_keep hown.out hb3) _) hgrow5 (by have := hb3.size; simp; omega)
        have HO5 := Lib.hid hown5
        have HB5 := Lib.hid hbel5
        clear hown5 hbel5 hgrow5 hat5 hb3 s1 s2 s3
        go_wp2
        go_roundw
        case rel => 
          refine ⟨k + 1, _, _, by omega, by go_num, rfl, Lib.hid ?_, HB5⟩
          rw [HSN.out, strs_snoc, HTL.out, ← tenS]
          exact HO5.out
        case measure => simp [intOf]; omega
    · obtain rfl : k = n := by omega
      have e0 : ts.take k = ts := List.take_of_length_le (by have := HN.out; omega)
      rw [e0] at hown
      have wc : IntKind.u64.wrap (cap : Int) = (cap : Int) := IntWalk.u64_in _ (by omega)
      have ws : IntKind.u64.wrap (sess : Int) = (sess : Int) := IntWalk.u64_in _ (by omega)
      have dc := dec_len cap (by omega)
      have dq := dec_len sess (by omega)
      have HDC : Hid (∀ W, Calls Try.prog 67 #[.int .u64 (cap : Int)] W fun e w' => e = .returned (.string (S (decDigits cap))) ∧ W = w') := Lib.hid fun W => refdigits_any cap W (by omega)
      have HDS : Hid (∀ W, Calls Try.prog 67 #[.int .u64 (sess : Int)] W fun e w' => e = .returned (.string (S (decDigits sess))) ∧ W = w') := Lib.hid fun W => refdigits_any sess W (by omega)
      have HCL : Hid (capL cap = wCap ++ 32 :: decDigits cap) := Lib.hid rfl
      have HSL : Hid (sesL sess = wSes ++ 32 :: decDigits sess) := Lib.hid rfl
      clear e0
      generalize decDigits cap = d1 at *
      generalize decDigits sess = d2 at *
      have s1 : ¬9223372036854775807 < 9 + d1.length := by omega
      have s2 : ¬9223372036854775807 < 9 + d2.length := by omega
      go_wp2_with fail
      go_region_held3 (fun w' => w'.cell? ⟨b, 1, none⟩ = some (.int .i64 (cap : Int)) ∧ w'.cell? ⟨b, 2, none⟩ = some (.int .i64 (sess : Int)))
        (first | go_keep | exact ⟨far_c (own_keep hown.out ((b_alloc _ _).drew)) hgrow5 (by omega) (keep_c ((b_alloc _ _).drew) q1), far_c (own_keep hown.out ((b_alloc _ _).drew)) hgrow5 (by omega) (keep_c ((b_alloc _ _).drew) q2)⟩)
        (first
          | (go_at_call 67; (with_reducible refine (HDC.out _).mono ?_); rintro e w3 ⟨rfl, rfl⟩)
          | (go_at_call 67; (with_reducible refine (HDS.out _).mono ?_); rintro e w3 ⟨rfl, rfl⟩)
          | (refine step_append_two (by rfl) (.tmp 36) (.tmp 47) 31 9 (by rfl) (b + 1) i0 _ 1 16 Try.underlying31 hi hz0 hz1 hz2 rfl (by decide) _ k (strs (ts.map tenL)) (by rfl) (by exact own_keep hown.out ((b_alloc _ _).drew)) ⟨_, 0, none⟩ [.string (⟨#[99, 97, 112, 97, 99, 105, 116, 121, 32]⟩ ++ S d1), .string (⟨#[115, 101, 115, 115, 105, 111, 110, 115, 32]⟩ ++ S d2)] (by rfl) rfl (by exact newN _ _ _ _ rfl) (by simp [Value.oneCell']) (by omega) (by decide) (by simp; omega) ?_; intro g' cap' w5 hown5 hgrow5))
      all_goals
        have hbel5 := grow_below (below_tr (((b_alloc _ _).drew).mono hwz) hbel.out) (own_keep hown.out ((b_alloc _ _).drew)) hgrow5 (by simp; omega)
        have hown6 : w5.ownsRow (b + 1) 9 1 (.slice (some ⟨g', 0, none⟩) (k + 2 + 0) cap') (k + 2 + 0) (strs (ts.map tenL ++ [capL cap, sesL sess] ++ (es.take 0).map evL)) := by
          have e : strs (ts.map tenL ++ [capL cap, sesL sess] ++ (es.take 0).map evL) = strs (ts.map tenL) ++ [.string (⟨#[99, 97, 112, 97, 99, 105, 116, 121, 32]⟩ ++ S d1), .string (⟨#[115, 101, 115, 115, 105, 111, 110, 115, 32]⟩ ++ S d2)] := by
            rw [HCL.out, HSL.out, capS, sesS]
            simp [strs]
          rw [e]
          exact hown5
        have HO6 := Lib.hid hown6
        have HB6 := Lib.hid hbel5
        clear hown5 hown6 hbel5 hgrow5 s1 s2 wc ws dc dq HDC HDS HCL HSL hown hbel hB q0 q1 q2 hwz
        obtain ⟨head, hhd⟩ : ∃ head, head = ts.map tenL ++ [capL cap, sesL sess] := ⟨_, rfl⟩
        rw [← hhd] at HO6
        have HHD := Lib.hid hhd
        clear hhd
        go_wp2
        go_loopw [5, 7] (fun v i wr => ∃ (j : Nat) (x : Option Addr) (y : Nat), j ≤ ne ∧ i = .int .i64 (j : Int) ∧ v = .slice x (k + 2 + j) y ∧ Hid (wr.ownsRow (b + 1) 9 1 (.slice x (k + 2 + j) y) (k + 2 + j) (strs (head ++ (es.take j).map evL))) ∧ Hid (Below (b + 1) W0 wr)) (fun _ i _ => ne - (intOf i).toNat)
        case atStart => exact ⟨0, _, _, by omega, rfl, rfl, HO6, HB6⟩
        case round =>
          obtain ⟨j, x2, y2, hj, rfl, rfl, hown, hbel⟩ := hrel
          clear HO6 HB6
          have hB : Below W0.heap.size W0 wr := by rw [HZ.out]; exact hbel.out
          have hwz : b + 1 ≤ wr.heap.size := by have := hB.size; rw [HZ.out] at this; exact this
          by_cases hlt : j < ne
          · have hl : j < es.length := by have := HNE.out; omega
            obtain ⟨g, o, rfl, hev⟩ := erow_at HE.out.1 (by omega)
            obtain ⟨a3, c3, hcr, d0, d1, d2, d3, d4, d5, d6, d7⟩ := ((hev j es[j] (List.getElem?_eq_getElem hl)).below hB).load
            have hpr := print39 es[j] _ wr (HE.out.2 _ (List.getElem_mem hl)) hcr.row
            have wj : IntKind.i64.wrap ((j : Int) + 1) = (j : Int) + 1 := IntWalk.i64_in _ (by omega)
            have hsn : head ++ (es.take (j + 1)).map evL = (head ++ (es.take j).map evL) ++ [(printOf es[j]).getD []] := by
              rw [List.take_succ_eq_append_getElem hl, List.map_append, List.append_assoc]; rfl
            unfold PrintPost at hpr
            simp only [evV] at hpr
            have HP := Lib.hid hpr
            have HSN := Lib.hid hsn
            clear hev hcr hpr hsn
            generalize (printOf es[j]).getD [] = pl at *
            generalize (printOf es[j]).isSome = pb at *
            generalize es[j].kind = x0 at *
            generalize es[j].session = x1 at *
            generalize es[j].stream = x2 at *
            generalize es[j].tenant = x3 at *
            generalize es[j].n = x4 at *
            generalize es[j].m = x5 at *
            generalize es[j].bits = x6 at *
            generalize es[j].data.length = x7 at *
            go_wp2_with (first | (go_at_call 66; refine HP.out.mono ?_; rintro e w3 ⟨rfl, hb3⟩; have X3 := Lib.hid hb3; clear hb3) | (at_builtin; refine wpList_append_lies _ rfl _ _ _ rfl (b + 1) 9 i0 _ 1 16 Try.underlying31 hi hz0 hz1 hz2 rfl (by omega) _ (k + 2 + j) _ rfl (World.ownsRow.alloc (own_keep hown.out X3.out) _) ⟨_, 0, none⟩ 1 1 [.string (S pl)] rfl rfl (newN _ _ _ _ rfl) (by simp [Value.oneCell']) (by omega) (by unfold maxLen; omega) (by omega) (by have := X3.out.size; simp; omega) _ rfl ?_; intro g' cap' w5 hown5 hgrow5 hat5 hlt5))
            have hbel5 := grow_below (below_tr (X3.out.mono hwz) hbel.out |>.alloc (by have := X3.out.size; omega) _) (World.ownsRow.alloc (own_keep hown.out X3.out) _) hgrow5 (by have := X3.out.size; simp; omega)
            go_roundw
            case rel =>
              refine ⟨j + 1, _, _, by omega, by go_num, rfl, Lib.hid ?_, Lib.hid hbel5⟩
              rw [HSN.out, strs_snoc]
              exact hown5
            case measure => simp [intOf]; omega
          · obtain rfl : j = ne := by omega
            have e0 : es.take j = es := List.take_of_length_le (by have := HNE.out; omega)
            rw [e0] at hown
            clear e0
            go_wp2
            go_ret
            have hl : linesL ts cap sess es = head ++ es.map evL := by rw [HHD.out]; rfl
            have hz : (head ++ es.map evL).length = k + 2 + j := by rw [HHD.out]; simp; have := HN.out; have := HNE.out; omega
            rw [hl, hz, HBB.out]
            refine ⟨_, rfl, own_weak hown.out (by omega), ?_⟩
            exact below_tr (hbel.out.mono (by omega)) HB.out
end Go.Proofs.Ytinabbdecmjcpaa.Script
