/- Contracts of the reference of layer 40: Check, Text, and Same of an empty setup with itself. The contract of the reference's Large of layer 23: are there too many tenants, or too long ones? -/
import Derived.Test.YtinabbdecmjcpaaGreatDoorG10
import Derived.Test.YtinabbdecmjcpaaGreatDoorG17
import Derived.Test.YtinabbdecmjcpaaGreatDoorGEvPrintAll
namespace Go.Proofs.YtinabbdecmjcpaaGreatDoor.Script
open Go.RowKit Go.Deep Go.Proofs.YtinabbdecmjcpaaGreatDoor Go.Proofs.YtinabbdecmjcpaaGreatDoor.Plain Go.Proofs.YtinabbdecmjcpaaGreatDoor.Words Go.Proofs.YtinabbdecmjcpaaGreatDoor.Named Go.Proofs.YtinabbdecmjcpaaGreatDoor.Hex Go.Proofs.YtinabbdecmjcpaaGreatDoor.Number Go.Proofs.YtinabbdecmjcpaaGreatDoor.Queue Go.Proofs.YtinabbdecmjcpaaGreatDoor.Line Go.Proofs.YtinabbdecmjcpaaGreatDoor.Ev
set_option linter.unusedVariables false

/-- Do all events have a line? -/
def allP (es : List Ev) : Bool := es.all fun e => (printOf e).isSome
/-- Is it a script? -/
def scriptB (ts : List Ten) (cap sess : Int) (es : List Ev) : Bool := (checkS ts cap sess == 0) && decide (cap ≤ 2147483647) && decide (sess ≤ 2147483647) && allP es
theorem allP_step (es : List Ev) (k : Nat) (h : k < es.length) : allP (es.drop k) = ((printOf es[k]).isSome && allP (es.drop (k + 1))) := by
  rw [List.drop_eq_getElem_cons h]; rfl
set_option maxRecDepth 100000 in
set_option maxHeartbeats 8000000 in
theorem check42 (ts : List Ten) (cap sess : Int) (es : List Ev) (vt ve : Value) (w : World) (ht : TRow w vt ts) (hnt : ts.length ≤ 1000000) (hst : ∀ t ∈ ts, t.name.size ≤ 1000000000000) (he : ERow w ve es) (hne : es.length ≤ 1000000) (hse : ∀ e ∈ es, EvOk e) :
    Calls Tryz.prog 8 #[setV vt cap sess, ve] w fun r w' => r = .returned (.bool (scriptB ts cap sess es)) ∧ Below w.heap.size w w' := by
  obtain ⟨a, c, rfl⟩ := trow_form ht
  obtain ⟨a2, c2, rfl⟩ := erow_form he
  have hb1 : Below w.heap.size w (w.alloc (.cells #[.slice a ts.length c, .int .i64 cap, .int .i64 sess] 24)) := (Below.refl _ _).alloc (Nat.le_refl _) _
  have hz : (w.alloc (.cells #[.slice a ts.length c, .int .i64 cap, .int .i64 sess] 24)).heap.size = w.heap.size + 1 := by simp
  have hck := ref65 ts cap sess _ _ (ht.below hb1) hnt hst
  have HA := Lib.hid hck
  have HB := Lib.hid hb1
  have HE := Lib.hid (And.intro he hse)
  obtain ⟨R, hR⟩ : ∃ R, R = scriptB ts cap sess es := ⟨_, rfl⟩
  rw [← hR]
  unfold scriptB at hR
  have HR := Lib.hid hR
  have g1 := World.cell?_alloc_at (w := w) #[.slice a ts.length c, .int .i64 cap, .int .i64 sess] 24 w.heap.size 1 rfl
  have g2 := World.cell?_alloc_at (w := w) #[.slice a ts.length c, .int .i64 cap, .int .i64 sess] 24 w.heap.size 2 rfl
  have G1 := Lib.hid g1
  have G2 := Lib.hid g2
  clear ht hck hb1 he hse hR g1 g2
  simp only [setV] at HA
  generalize checkS ts cap sess = T at *
  obtain ⟨n, hN⟩ : ∃ n, n = es.length := ⟨_, rfl⟩
  rw [← hN] at hne HE ⊢
  have HN := Lib.hid hN
  have HZ := Lib.hid hz
  clear hN hz hst
  go_enter Tryz.func8, Tryz.ntmps8
  go_wp2_with fail
  refine HA.out.mono ?_
  rintro e w2 ⟨rfl, hb2⟩
  have g1 := keep_c hb2 G1.out
  have g2 := keep_c hb2 G2.out
  have HB2 := Lib.hid (bt HB.out hb2)
  clear hb2
  by_cases hT : T = 0
  rotate_left
  · have t : ((T : Int) != 0) = true := by rw [bne_iff_ne]; omega
    have hv : R = false := by rw [HR.out, beq_eq_false_iff_ne.2 hT]; rfl
    have HV := Lib.hid hv
    clear hv
    go_wp2
    go_ret
    exact ⟨by rw [HV.out]; rfl, HB2.out⟩
  have t : ((T : Int) != 0) = false := by rw [bne_eq_false_iff_eq]; omega
  by_cases h1 : cap ≤ 2147483647
  rotate_left
  · have t1 : decide ((2147483647 : Int) < cap) = true := decide_eq_true (by omega)
    have hv : R = false := by rw [HR.out, decide_eq_false h1]; simp
    have HV := Lib.hid hv
    clear hv
    go_wp2
    go_ret
    exact ⟨by rw [HV.out]; rfl, HB2.out⟩
  have t1 : decide ((2147483647 : Int) < cap) = false := decide_eq_false (by omega)
  by_cases h2 : sess ≤ 2147483647
  rotate_left
  · have t2 : decide ((2147483647 : Int) < sess) = true := decide_eq_true (by omega)
    have hv : R = false := by rw [HR.out, decide_eq_false h2]; simp
    have HV := Lib.hid hv
    clear hv
    go_wp2
    go_ret
    exact ⟨by rw [HV.out]; rfl, HB2.out⟩
  have t2 : decide ((2147483647 : Int) < sess) = false := decide_eq_false (by omega)
  have hv : R = allP (es.drop 0) := by rw [HR.out, decide_eq_true h1, decide_eq_true h2, hT]; simp
  have HV := Lib.hid hv
  clear hv
  go_wp2
  go_loopw [5] (fun v wr => ∃ k : Nat, k ≤ n ∧ v = .int .i64 (k : Int) ∧ Hid (Below w.heap.size w wr) ∧ Hid (R = allP (es.drop k))) (fun v _ => n - (intOf v).toNat)
  case atStart => exact ⟨0, by omega, rfl, HB2, HV⟩
  case round =>
    obtain ⟨k, hk, rfl, hb, hr⟩ := hrel
    clear g1 g2 t t1 t2
    by_cases hlt : k < n
    · have hl : k < es.length := by have := HN.out; omega
      obtain ⟨g, o, rfl, hev⟩ := erow_at HE.out.1 (by omega)
      obtain ⟨a3, c3, hcr, d0, d1, d2, d3, d4, d5, d6, d7⟩ := ((hev k es[k] (List.getElem?_eq_getElem hl)).below hb.out).load
      have hpr := print39 es[k] _ wr (HE.out.2 _ (List.getElem_mem hl)) hcr.row
      have hst := allP_step es k hl
      rw [← hr.out] at hst
      have wk : IntKind.i64.wrap ((k : Int) + 1) = (k : Int) + 1 := IntWalk.i64_in _ (by omega)
      unfold PrintPost at hpr
      simp only [evV] at hpr
      have HP := Lib.hid hpr
      have HST := Lib.hid hst
      clear hev hcr hst hpr hr
      generalize printOf es[k] = O at *
      generalize es[k].kind = x0 at *
      generalize es[k].session = x1 at *
      generalize es[k].stream = x2 at *
      generalize es[k].tenant = x3 at *
      generalize es[k].n = x4 at *
      generalize es[k].m = x5 at *
      generalize es[k].bits = x6 at *
      generalize es[k].data.length = x7 at *
      cases O with
      | none =>
        have hv : R = false := by rw [HST.out]; rfl
        have HV := Lib.hid hv
        clear hv
        go_wp2_with (go_at_call 23; refine HP.out.mono ?_; rintro e w3 ⟨rfl, hb3⟩; have X3 := Lib.hid hb3; clear hb3)
        go_ret
        exact ⟨by rw [HV.out]; rfl, bt hb.out X3.out⟩
      | some s =>
        have hv : R = allP (es.drop (k + 1)) := by rw [HST.out]; simp
        have HV := Lib.hid hv
        clear hv
        simp only [Option.getD_some, Option.isSome_some] at HP
        go_wp2_with (go_at_call 23; refine HP.out.mono ?_; rintro e w3 ⟨rfl, hb3⟩; have X3 := Lib.hid hb3; clear hb3)
        go_roundw
        case rel => exact ⟨k + 1, by omega, by go_num, Lib.hid (bt hb.out X3.out), HV⟩
        case measure => simp [intOf]; omega
    · have hv : R = true := by
        have := HN.out
        rw [hr.out, List.drop_eq_nil_of_le (by omega)]
        rfl
      have HV := Lib.hid hv
      clear hv hr
      go_wp2
      go_ret
      exact ⟨by rw [HV.out]; rfl, hb.out⟩

/-- A slice of strings. -/
def SRow (w : World) (v : Value) (ls : List ByteArray) : Prop :=
  (ls = [] ∧ ∃ a cap, v = .slice a 0 cap) ∨ (∃ g o cap, v = .slice (some ⟨g, o, none⟩) ls.length cap ∧ ∀ i (h : i < ls.length), w.cell? ⟨g, o + i, none⟩ = some (.string ls[i]))
/-- Lines, each with its end, and something behind each. -/
def textL (ls : List ByteArray) (b : List UInt8) : List UInt8 := ls.flatMap fun l => L l ++ 10 :: b
theorem textL_snoc (ls : List ByteArray) (l : ByteArray) (b : List UInt8) : textL (ls ++ [l]) b = textL ls b ++ (L l ++ 10 :: b) := by simp [textL]
theorem textL_take (ls : List ByteArray) (b : List UInt8) (k : Nat) : (textL (ls.take k) b).length ≤ (textL ls b).length := by
  have h : textL ls b = textL (ls.take k) b ++ textL (ls.drop k) b := by
    unfold textL
    rw [← List.flatMap_append, List.take_append_drop]
  rw [h]
  simp
set_option maxRecDepth 100000 in
set_option maxHeartbeats 4000000 in
theorem text46 (ls : List ByteArray) (b : ByteArray) (v : Value) (w : World) (h : SRow w v ls) (hn : ls.length ≤ 1000000000000) (hl : (textL ls (L b)).length ≤ 1000000000000) :
    Calls Tryz.prog 11 #[v, .string b] w fun e w' => e = .returned (.string (S (textL ls (L b)))) ∧ w = w' := by
  have hform : ∃ a cap, v = .slice a ls.length cap := by
    rcases h with ⟨rfl, a, cap, rfl⟩ | ⟨g, o, cap, rfl, _⟩
    · exact ⟨_, _, rfl⟩
    · exact ⟨_, _, rfl⟩
  obtain ⟨a, cap, rfl⟩ := hform
  have H := Lib.hid h
  obtain ⟨n, hN⟩ : ∃ n, n = ls.length := ⟨_, rfl⟩
  rw [← hN] at hn H ⊢
  have HN := Lib.hid hN
  have HL := Lib.hid hl
  clear h hN hl
  go_enter Tryz.func11, Tryz.ntmps11
  go_wp2
  go_loop [5, 6] (fun u v => ∃ (k : Nat) (x : ByteArray), k ≤ n ∧ v = .int .i64 (k : Int) ∧ u = .string x ∧ Hid (x = S (textL (ls.take k) (L b)))) (fun _ v => n - (intOf v).toNat)
  case atStart => exact ⟨0, ⟨#[]⟩, by omega, rfl, rfl, Lib.hid rfl⟩
  case round =>
    obtain ⟨k, x, hk, rfl, rfl, hx⟩ := hrel
    have hxs : x.size ≤ 1000000000000 := by
      rw [hx.out]
      show (textL (ls.take k) (L b)).toArray.size ≤ _
      have := textL_take ls (L b) k
      have := HL.out
      simp
      omega
    by_cases hlt : k < n
    · have hl : k < ls.length := by have := HN.out; omega
      have hat : ∃ g o, a = some ⟨g, o, none⟩ ∧ w.cell? ⟨g, o + k, none⟩ = some (.string ls[k]) := by
        rcases H.out with ⟨rfl, _⟩ | ⟨g, o, cap', e, h⟩
        · simp at hl
        · cases e
          exact ⟨g, o, rfl, h k hl⟩
      obtain ⟨g, o, rfl, c0⟩ := hat
      have hsn : textL (ls.take (k + 1)) (L b) = textL (ls.take k) (L b) ++ (L ls[k] ++ 10 :: L b) := by
        rw [List.take_succ_eq_append_getElem hl, textL_snoc]
      have hle := textL_take ls (L b) (k + 1)
      rw [hsn, List.length_append, List.length_append, List.length_cons, L_len, L_len] at hle
      have hL := HL.out
      have hks : ls[k].size ≤ 1000000000000 := by omega
      have hbs : b.size ≤ 1000000000000 := by omega
      have HSN := Lib.hid hsn
      have wk : IntKind.i64.wrap ((k : Int) + 1) = (k : Int) + 1 := IntWalk.i64_in _ (by omega)
      clear hsn hle hL
      generalize ls[k] = y at *
      go_wp2
      go_round
      case rel =>
        refine ⟨k + 1, _, by omega, by go_num, rfl, Lib.hid ?_⟩
        rw [HSN.out, hx.out]
        show S (textL (ls.take k) (L b)) ++ y ++ S [10] ++ b = _
        have e1 : y = S (L y) := (S_L y).symm
        have e2 : b = S (L b) := (S_L b).symm
        generalize L y = ly at *
        generalize L b = lb at *
        rw [e1, e2, append_S, append_S, append_S]
        simp
      case measure => simp [intOf]; omega
    · obtain rfl : k = n := by omega
      have hv : x = S (textL ls (L b)) := by
        have := HN.out
        rw [hx.out, List.take_of_length_le (by omega)]
      subst hv
      clear hx
      go_wp2
      go_ret
      exact ⟨rfl, rfl⟩
set_option maxRecDepth 100000 in
set_option maxHeartbeats 4000000 in
theorem same47e (w : World) : Calls Tryz.prog 12 #[setV (.slice none 0 0) 0 0, setV (.slice none 0 0) 0 0] w fun e w' => e = .returned (.bool true) ∧ Below w.heap.size w w' := by
  go_enter Tryz.func12, Tryz.ntmps12
  go_wp2
  refine wp_loop_rounds 1 ?_
  rw [rounds_succ]
  go_wp2
  go_ret
  exact ⟨rfl, ((Below.refl _ _).alloc (Nat.le_refl _) _).alloc (by simp) _⟩
end Go.Proofs.YtinabbdecmjcpaaGreatDoor.Script

namespace Go.Proofs.YtinabbdecmjcpaaGreatDoor.Script
open Go.RowKit Go.Deep Go.Proofs.YtinabbdecmjcpaaGreatDoor Go.Proofs.YtinabbdecmjcpaaGreatDoor.Plain Go.Proofs.YtinabbdecmjcpaaGreatDoor.Words Go.Proofs.YtinabbdecmjcpaaGreatDoor.Named Go.Proofs.YtinabbdecmjcpaaGreatDoor.Hex Go.Proofs.YtinabbdecmjcpaaGreatDoor.Number Go.Proofs.YtinabbdecmjcpaaGreatDoor.Queue Go.Proofs.YtinabbdecmjcpaaGreatDoor.Line Go.Proofs.YtinabbdecmjcpaaGreatDoor.Ev
set_option linter.unusedVariables false

def SmallT (t : Ten) : Prop := t.name.size ≤ 100 ∧ t.key.length ≤ 100
def LargeTPost (ts : List Ten) (w : World) (e : Ending) (w' : World) : Prop := ∃ B : Bool, e = .returned (.bool B) ∧ w = w' ∧ (B = false → ts.length ≤ 20 ∧ ∀ t ∈ ts, SmallT t)
set_option maxRecDepth 100000 in
set_option maxHeartbeats 4000000 in
theorem large23 (ts : List Ten) (v : Value) (w : World) (h : TRow w v ts) (hn : ts.length ≤ 1000000000000000) : Calls Tryz.prog 5 #[v] w (LargeTPost ts w) := by
  obtain ⟨a, cap, rfl⟩ := trow_form h
  have H := Lib.hid h
  clear h
  obtain ⟨n, hN⟩ : ∃ n, n = ts.length := ⟨_, rfl⟩
  rw [← hN] at hn H ⊢
  have HN := Lib.hid hN
  clear hN
  go_enter Tryz.func5, Tryz.ntmps5
  go_wp2
  go_loop [3] (fun v => ∃ k : Nat, k ≤ n ∧ k ≤ 20 ∧ v = .int .i64 (k : Int) ∧ Hid (∀ j (hj : j < ts.length), j < k → SmallT ts[j])) (fun v => n - (intOf v).toNat)
  case atStart => exact ⟨0, by omega, by omega, rfl, Lib.hid fun j hj h => absurd h (by omega)⟩
  case round =>
    obtain ⟨k, hk, hk2, rfl, hr⟩ := hrel
    by_cases hlt : k < n
    · by_cases h20 : k < 20
      · have hl : k < ts.length := by have := HN.out; omega
        obtain ⟨g, o, rfl, _, hev⟩ := trow_at (HN.out ▸ H.out) (by omega)
        obtain ⟨c0, kv, c1, hcr⟩ := hev k ts[k] (List.getElem?_eq_getElem hl)
        obtain ⟨a1, cc, rfl⟩ := crow_form hcr
        have HST := Lib.hid (fun (j : Nat) (hj : j < ts.length) (h : j < k + 1) (hs : SmallT ts[k]) => (show SmallT ts[j] by
          by_cases e : j = k
          · subst e; exact hs
          · exact hr.out j hj (by omega)))
        have HSM := Lib.hid (show SmallT ts[k] ↔ (ts[k].name.size ≤ 100 ∧ ts[k].key.length ≤ 100) from Iff.rfl)
        clear hev hcr hr
        generalize hx : ts[k].name = x at *
        generalize hy : ts[k].key.length = y at *
        clear hx hy
        have wk : IntKind.i64.wrap ((k : Int) + 1) = (k : Int) + 1 := IntWalk.i64_in _ (by omega)
        by_cases h1 : 100 < x.size
        · have t1 : decide ((100 : Int) < (x.size : Int)) = true := decide_eq_true (by omega)
          go_wp2
          go_ret
          exact ⟨true, rfl, rfl, fun h => by cases h⟩
        · have t1 : decide ((100 : Int) < (x.size : Int)) = false := decide_eq_false (by omega)
          by_cases h2 : 100 < y
          · have t2 : decide ((100 : Int) < (y : Int)) = true := decide_eq_true (by omega)
            go_wp2
            go_ret
            exact ⟨true, rfl, rfl, fun h => by cases h⟩
          · have t2 : decide ((100 : Int) < (y : Int)) = false := decide_eq_false (by omega)
            have HS2 := Lib.hid (HSM.out.2 ⟨by omega, by omega⟩)
            clear HSM
            go_wp2
            go_round
            case rel => exact ⟨k + 1, by omega, by omega, by go_num, Lib.hid fun j hj h => HST.out j hj h HS2.out⟩
            case measure => simp [intOf]; omega
      · have t2 : decide ((k : Int) < 20) = false := decide_eq_false (by omega)
        have hk3 : k = 20 := by omega
        subst hk3
        have tn : decide ((20 : Int) < (n : Int)) = true := decide_eq_true (by omega)
        go_wp2
        go_ret
        exact ⟨true, rfl, rfl, fun h => by cases h⟩
    · have hall : ∀ t ∈ ts, SmallT t := fun t ht => by
        obtain ⟨j, hj, rfl⟩ := List.getElem_of_mem ht
        exact hr.out j hj (by have := HN.out; omega)
      have hl20 : ts.length ≤ 20 := by have := HN.out; omega
      have HA := Lib.hid (And.intro hl20 hall)
      have tn : decide ((20 : Int) < (n : Int)) = false := decide_eq_false (by omega)
      clear hall hl20 hr
      go_wp2
      go_ret
      exact ⟨false, rfl, rfl, fun _ => HA.out⟩
end Go.Proofs.YtinabbdecmjcpaaGreatDoor.Script
