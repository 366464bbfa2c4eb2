/- An event that came in by value: what is known of it, read off the row's premise. The contract of layer 39's law's awake: the chapter's example is answered. And lengths of lines of events that are not large. -/
import Derived.Lib.SmallJoins
import Derived.Test.YtinabbdecmjcpaaDoorG10
import Derived.Test.YtinabbdecmjcpaaDoorGEvWrite
import Derived.Test.YtinabbdecmjcpaaDoorGEvPrintAll
namespace Go.Proofs.YtinabbdecmjcpaaDoor.Script
open Go.RowKit Go.Proofs.YtinabbdecmjcpaaDoor Go.Proofs.YtinabbdecmjcpaaDoor.Plain Go.Proofs.YtinabbdecmjcpaaDoor.Words Go.Proofs.YtinabbdecmjcpaaDoor.Named Go.Proofs.YtinabbdecmjcpaaDoor.Hex Go.Proofs.YtinabbdecmjcpaaDoor.Number Go.Proofs.YtinabbdecmjcpaaDoor.Queue Go.Proofs.YtinabbdecmjcpaaDoor.Line Go.Proofs.YtinabbdecmjcpaaDoor.Ev
open Go.ChangeShapes Go.WideShapes Go.ChangeAt Go.Deep
set_option linter.unusedVariables false

theorem EvBnd.fits2 {e : Ev} (h : EvBnd e) : Fits2 e := ⟨h.fits, h.session.1, h.stream.1, h.m.1⟩
section
variable {H : Type} {enc : TypeId × Value → H} {W : World} {base : Nat} {spare : Nat → Bool} {held : Bool}
set_option maxRecDepth 100000 in
theorem open_event {E : TypeId} {r : Reach} {b0 : Nat} {f0 f1 f2 f3 f4 f5 f6 f7 : Field} (hE : Tryd.prog.underlying E = some (.struct #[f0, f1, f2, f3, f4, f5, f6, f7])) (hC : Tryd.prog.cellsOf E = 8)
    (t0 : f0.type = 3) (t1 : f1.type = 3) (t2 : f2.type = 3) (t3 : f3.type = 9) (t4 : f4.type = 22) (t5 : f5.type = 3) (t6 : f6.type = 22) (t7 : f7.type = 29)
    (o0 : f0.offset = 0) (o1 : f1.offset = 1) (o2 : f2.offset = 2) (o3 : f3.offset = 3) (o4 : f4.offset = 4) (o5 : f5.offset = 5) (o6 : f6.offset = 6) (o7 : f7.offset = 7)
    {v : Value} {d : DataW H} {p : List MemPlace} (hv : Value.okWide Tryd.prog W r b0 E v) (h : DataW.Trod enc Tryd.prog W base spare held E v d p) (hw : ∀ n ∈ d.weights Tryd.prog E, n ≤ reachBytes) : ∃ (e : Ev) (dv : Value), v = evV e dv ∧ EvBnd e ∧ CRow W dv e.data := by
  obtain ⟨cs, rfl, hsz⟩ := okWide_struct hE hv
  obtain ⟨fuel, hf⟩ := h
  obtain ⟨xs, n', _, hxa, hlen, hxl, hf'⟩ := DataW.trod_struct hE hf
  have hDi : d = .agg (xs.map (·.1)) := congrArg Prod.fst hxa
  have hcl : cs.toList.length = 8 := by rw [Array.length_toList, hsz, hC]
  have hcs : (Value.agg cs).cells.toList = cs.toList := rfl
  rw [hcs] at hf'
  obtain ⟨c0, c1, c2, c3, c4, c5, c6, c7, hcc⟩ := list8 hcl
  rw [hcc] at hf'
  have g0 := hf' 0 f0 rfl
  have g1 := hf' 1 f1 rfl
  have g2 := hf' 2 f2 rfl
  have g3 := hf' 3 f3 rfl
  have g4 := hf' 4 f4 rfl
  have g5 := hf' 5 f5 rfl
  have g6 := hf' 6 f6 rfl
  have g7 := hf' 7 f7 rfl
  rw [t0, o0, show Tryd.prog.cellsOf 3 = 1 by kernel_rfl] at g0
  rw [t1, o1, show Tryd.prog.cellsOf 3 = 1 by kernel_rfl] at g1
  rw [t2, o2, show Tryd.prog.cellsOf 3 = 1 by kernel_rfl] at g2
  rw [t3, o3, show Tryd.prog.cellsOf 9 = 1 by kernel_rfl] at g3
  rw [t4, o4, show Tryd.prog.cellsOf 22 = 1 by kernel_rfl] at g4
  rw [t5, o5, show Tryd.prog.cellsOf 3 = 1 by kernel_rfl] at g5
  rw [t6, o6, show Tryd.prog.cellsOf 22 = 1 by kernel_rfl] at g6
  rw [t7, o7, show Tryd.prog.cellsOf 29 = 1 by kernel_rfl] at g7
  obtain ⟨x0, x1, x2, x3, x4, x5, x6, x7, rfl⟩ := list8 hxl
  obtain ⟨k0, e0, _, w0⟩ := DataW.trod_int Tryd.underlying3 (show DataW.trod enc Tryd.prog W base spare held n' 3 [c0] = some x0 from g0)
  obtain ⟨k1, e1, _, w1⟩ := DataW.trod_int Tryd.underlying3 (show DataW.trod enc Tryd.prog W base spare held n' 3 [c1] = some x1 from g1)
  obtain ⟨k2, e2, _, w2⟩ := DataW.trod_int Tryd.underlying3 (show DataW.trod enc Tryd.prog W base spare held n' 3 [c2] = some x2 from g2)
  obtain ⟨k3, e3, hx3, w3⟩ := DataW.trod_string Tryd.underlying9 (show DataW.trod enc Tryd.prog W base spare held n' 9 [c3] = some x3 from g3)
  obtain ⟨k4, e4, _, w4⟩ := DataW.trod_int Tryd.underlying22 (show DataW.trod enc Tryd.prog W base spare held n' 22 [c4] = some x4 from g4)
  obtain ⟨k5, e5, _, w5⟩ := DataW.trod_int Tryd.underlying3 (show DataW.trod enc Tryd.prog W base spare held n' 3 [c5] = some x5 from g5)
  obtain ⟨k6, e6, _, w6⟩ := DataW.trod_int Tryd.underlying22 (show DataW.trod enc Tryd.prog W base spare held n' 22 [c6] = some x6 from g6)
  obtain ⟨l, hrow, _⟩ := open_bytes (show DataW.trod enc Tryd.prog W base spare held n' 29 [c7] = some x7 from g7)
  have hag : ∀ n ∈ DataW.weightsEach Tryd.prog [f0.type, f1.type, f2.type, f3.type, f4.type, f5.type, f6.type, f7.type] [x0.1, x1.1, x2.1, x3.1, x4.1, x5.1, x6.1, x7.1], n ≤ reachBytes := fun n hn => hw n (by rw [hDi]; simp only [DataW.weights, hE]; exact hn)
  have hl3 : k3.size ≤ reachBytes := hag _ (DataW.weights_mem_each (j := 3) (t := f3.type) (d := x3.1) rfl rfl _ (by rw [hx3]; simp [DataW.weights]))
  have hlen' : l.length ≤ reachBytes := open_bytes_len (show DataW.trod enc Tryd.prog W base spare held n' 29 [c7] = some x7 from g7) (fun n hn => hag n (DataW.weights_mem_each (j := 7) (t := f7.type) (d := x7.1) rfl rfl n (by rw [t7]; exact hn))) hrow
  simp at e0 e1 e2 e3 e4 e5 e6
  subst e0 e1 e2 e3 e4 e5 e6
  obtain ⟨q0, q1⟩ := bounds_u64 w4
  obtain ⟨q2, q3⟩ := bounds_u64 w6
  refine ⟨⟨k0, k1, k2, k3, k4.toNat, k5, k6.toNat, l⟩, c7, ?_, ⟨bounds_i64 w0, bounds_i64 w1, bounds_i64 w2, bounds_i64 w5, by show k4.toNat < _; omega, by show k6.toNat < _; omega, hl3, hlen'⟩, hrow⟩
  have hca : cs = #[.int .i64 k0, .int .i64 k1, .int .i64 k2, .string k3, .int .u64 k4, .int .i64 k5, .int .u64 k6, c7] := by
    apply Array.toList_inj.1
    rw [hcc]
  rw [hca]
  show _ = Value.agg #[.int .i64 k0, .int .i64 k1, .int .i64 k2, .string k3, .int .u64 (k4.toNat : Int), .int .i64 k5, .int .u64 (k6.toNat : Int), c7]
  rw [Int.toNat_of_nonneg q0, Int.toNat_of_nonneg q2]
end
end Go.Proofs.YtinabbdecmjcpaaDoor.Script

namespace Go.Proofs.YtinabbdecmjcpaaDoor.Ev
open Go.RowKit Go.Proofs.YtinabbdecmjcpaaDoor Go.Proofs.YtinabbdecmjcpaaDoor.Plain Go.Proofs.YtinabbdecmjcpaaDoor.Words Go.Proofs.YtinabbdecmjcpaaDoor.Named Go.Proofs.YtinabbdecmjcpaaDoor.Hex Go.Proofs.YtinabbdecmjcpaaDoor.Number Go.Proofs.YtinabbdecmjcpaaDoor.Line Go.Proofs.YtinabbdecmjcpaaDoor.Queue
open Go.Lib (decDigits)
set_option linter.unusedVariables false

def exL : List UInt8 := [116, 97, 114, 103, 101, 116, 32, 49, 32, 50, 32, 48, 48, 102, 102]
def exE : Ev := ⟨5, 1, 2, ⟨#[]⟩, 0, 0, 0, [0, 255]⟩
theorem ex_parse : parseOf exL = (exE, 0) := by kernel_rfl
theorem ex_print : printOf exE = some exL := print_parse exL exE ex_parse
theorem ex13 (w : World) : Calls Tryd.prog 13 #[.string ⟨#[116, 97, 114, 103, 101, 116, 32, 49, 32, 50, 32, 48, 48, 102, 102]⟩] w fun e w' => ∃ a c, e = .returned (.tuple #[.agg #[.int .i64 5, .int .i64 1, .int .i64 2, .string ⟨#[]⟩, .int .u64 0, .int .i64 0, .int .u64 0, .slice a 2 c], .int .i64 0]) ∧ BRow w' (.slice a 2 c) [0, 255] ∧ Below w.heap.size w w' := by
  refine (parse_any (S exL) w (by decide)).mono ?_
  rintro e w' ⟨dv, rfl, hc, _, hb⟩
  rw [show L (S exL) = exL from rfl, ex_parse] at *
  obtain ⟨a, c, rfl⟩ := crow_form hc
  exact ⟨a, c, rfl, hc.row, hb⟩
theorem ex14 (w : World) (a : Option Addr) (c : Nat) (h : BRow w (.slice a 2 c) [0, 255]) (hT : Tab w) : Calls Tryd.prog 14 #[.agg #[.int .i64 5, .int .i64 1, .int .i64 2, .string ⟨#[]⟩, .int .u64 0, .int .i64 0, .int .u64 0, .slice a 2 c]] w fun e w' => e = .returned (.string ⟨#[116, 97, 114, 103, 101, 116, 32, 49, 32, 50, 32, 48, 48, 102, 102]⟩) ∧ Below w.heap.size w w' := by
  have := evprint_any exE (.slice a 2 c) w ⟨⟨by decide, by decide, by decide, by decide, by decide⟩, by decide, by decide, by decide⟩ (by decide) (by decide) h hT
  rw [ex_print] at this
  exact this
set_option maxRecDepth 100000 in
set_option maxHeartbeats 1000000 in
theorem awake39 (w : World) (hT : Tab w) : Calls Tryd.prog 11 #[] w fun e w' => e = .returned (.bool true) ∧ Below w.heap.size w w' := by
  have h13 := Lib.hid ex13
  have h14 := Lib.hid ex14
  have HT := Lib.hid hT
  clear hT
  go_enter Tryd.func11, Tryd.ntmps11
  go_wp2_with fail
  refine (h13.out _).mono ?_
  rintro e w1 ⟨a, c, rfl, hr, hb1⟩
  have hba : Below w1.heap.size w1 (w1.alloc (.cells #[.int .i64 5, .int .i64 1, .int .i64 2, .string ⟨#[]⟩, .int .u64 0, .int .i64 0, .int .u64 0, .slice a 2 c] 31)) := (Below.refl _ _).alloc (Nat.le_refl _) _
  have H := Lib.hid (h14.out (w1.alloc (.cells #[.int .i64 5, .int .i64 1, .int .i64 2, .string ⟨#[]⟩, .int .u64 0, .int .i64 0, .int .u64 0, .slice a 2 c] 31)) a c (brow_below hba hr) (tab_keep HT.out (bt hb1 hba)))
  have HB := Lib.hid (bt hb1 hba)
  clear hr hb1 hba h14 h13
  go_wp2_with (go_at_call 14; refine H.out.mono ?_; rintro r w2 ⟨rfl, hb2⟩; have X2 := Lib.hid hb2; clear hb2)
  go_ret
  exact ⟨rfl, bt HB.out X2.out⟩

theorem text_small (e : Ev) (ok : EvOk e) (h0 : 0 ≤ e.session) (h1 : 0 ≤ e.stream) (h2 : 0 ≤ e.m) (hk : inR e.kind = true) (ht : e.tenant.size ≤ 100) (hd : e.data.length ≤ 5000) : (textOf e).length ≤ 50000 := by
  obtain ⟨j, hj, a1, a2⟩ := inR_nat hk
  have hjn : e.kind.toNat = j := by omega
  obtain ⟨_, hw, _⟩ := word_ne j a1 a2
  have d20 : ∀ n : Nat, n < 18446744073709551616 → (decDigits n).length ≤ 10001 := fun n hn => by have := dec_len n hn; omega
  have hf := ok.fits
  have hg : ∀ s, (getT e s).length ≤ 10001 := fun s => by
    cases s
    · exact d20 _ (by have := hf.session; omega)
    · exact d20 _ (by have := hf.stream; omega)
    · exact d20 _ (by have := hf.m; omega)
    · show (L e.tenant).length ≤ _; rw [L_len]; omega
    · exact d20 _ hf.n
    · exact d20 _ hf.bits
    · show (hexOf e.data).length ≤ _
      unfold hexOf
      split
      · simp
      · rw [hexs_len]; omega
  have hs := slots_three j
  unfold textOf
  rw [hjn]
  have := join_bd (wordN j :: (slotsN j).map (getT e)) 10001 (fun w hw' => by
    rcases List.mem_cons.1 hw' with rfl | hw'
    · omega
    · obtain ⟨s, _, rfl⟩ := List.mem_map.1 hw'
      exact hg s)
  simp only [List.length_cons, List.length_map] at this
  have h4 : ((slotsN j).length + 1) * (10001 + 1) ≤ 4 * 10002 := Nat.mul_le_mul_right _ (by omega)
  omega
theorem print_small (e : Ev) (ok : EvOk e) (ht : e.tenant.size ≤ 100) (hd : e.data.length ≤ 5000) : (S ((printOf e).getD [])).size ≤ 100000 := by
  show ((printOf e).getD []).toArray.size ≤ _
  rw [List.size_toArray]
  cases hp : printOf e with
  | none => simp
  | some s =>
    obtain ⟨hr, h0, h1, h2, _, _, rfl⟩ := print_parts e s hp
    have := text_small e ok h0 h1 h2 hr ht hd
    simp only [Option.getD_some]
    omega
end Go.Proofs.YtinabbdecmjcpaaDoor.Ev
