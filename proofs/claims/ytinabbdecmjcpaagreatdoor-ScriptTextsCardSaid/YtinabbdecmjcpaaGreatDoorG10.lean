/- The contract of the reference's Large of layer 35: are there too many events, or too long ones? A list of events that came in: what is known of its memory, read off the row's premise. -/
import Derived.OpenShut
import Derived.ChangeOld
import Derived.SizedLaws
import Derived.Test.YtinabbdecmjcpaaGreatDoorG09
namespace Go.Proofs.YtinabbdecmjcpaaGreatDoor.Script
open Go.RowKit Go.Deep Go.Proofs.YtinabbdecmjcpaaGreatDoor Go.Proofs.YtinabbdecmjcpaaGreatDoor.Plain Go.Proofs.YtinabbdecmjcpaaGreatDoor.Words Go.Proofs.YtinabbdecmjcpaaGreatDoor.Named Go.Proofs.YtinabbdecmjcpaaGreatDoor.Hex Go.Proofs.YtinabbdecmjcpaaGreatDoor.Number Go.Proofs.YtinabbdecmjcpaaGreatDoor.Queue Go.Proofs.YtinabbdecmjcpaaGreatDoor.Line Go.Proofs.YtinabbdecmjcpaaGreatDoor.Ev
set_option linter.unusedVariables false

/-- An event at a place of a slice. -/
def EvIn (w : World) (g o i : Nat) (e : Ev) : Prop := ∃ dv, w.cell? ⟨g, o + i * 8, none⟩ = some (.int .i64 e.kind) ∧ w.cell? ⟨g, o + i * 8 + 1, none⟩ = some (.int .i64 e.session) ∧ w.cell? ⟨g, o + i * 8 + 2, none⟩ = some (.int .i64 e.stream) ∧ w.cell? ⟨g, o + i * 8 + 3, none⟩ = some (.string e.tenant) ∧ w.cell? ⟨g, o + i * 8 + 4, none⟩ = some (.int .u64 (e.n : Int)) ∧ w.cell? ⟨g, o + i * 8 + 5, none⟩ = some (.int .i64 e.m) ∧ w.cell? ⟨g, o + i * 8 + 6, none⟩ = some (.int .u64 (e.bits : Int)) ∧ w.cell? ⟨g, o + i * 8 + 7, none⟩ = some dv ∧ CRow w dv e.data
theorem EvIn.below {w w' : World} {g o i : Nat} {e : Ev} (h : EvIn w g o i e) (hb : Below w.heap.size w w') : EvIn w' g o i e := by
  obtain ⟨dv, h0, h1, h2, h3, h4, h5, h6, h7, h8⟩ := h
  exact ⟨dv, keep_c hb h0, keep_c hb h1, keep_c hb h2, keep_c hb h3, keep_c hb h4, keep_c hb h5, keep_c hb h6, keep_c hb h7, crow_below h8 hb⟩
/-- A slice of events. -/
def ERow (w : World) (v : Value) (es : List Ev) : Prop :=
  (es = [] ∧ ∃ a cap, v = .slice a 0 cap) ∨ (∃ g o cap, v = .slice (some ⟨g, o, none⟩) es.length cap ∧ ∀ (i : Nat) (e : Ev), es[i]? = some e → EvIn w g o i e)
theorem ERow.below {w w' : World} {v : Value} {es : List Ev} (h : ERow w v es) (hb : Below w.heap.size w w') : ERow w' v es := by
  rcases h with h | ⟨g, o, cap, e, h⟩
  · exact .inl h
  · exact .inr ⟨g, o, cap, e, fun i t ht => (h i t ht).below hb⟩
theorem EvIn.load {w : World} {g o i : Nat} {e : Ev} (h : EvIn w g o i e) : ∃ a cap, CRow w (.slice a e.data.length cap) e.data ∧ w.cell? ⟨g, o + i * 8, none⟩ = some (.int .i64 e.kind) ∧ w.cell? ⟨g, o + i * 8 + 1, none⟩ = some (.int .i64 e.session) ∧ w.cell? ⟨g, o + i * 8 + 2, none⟩ = some (.int .i64 e.stream) ∧ w.cell? ⟨g, o + i * 8 + 3, none⟩ = some (.string e.tenant) ∧ w.cell? ⟨g, o + i * 8 + 4, none⟩ = some (.int .u64 (e.n : Int)) ∧ w.cell? ⟨g, o + i * 8 + 5, none⟩ = some (.int .i64 e.m) ∧ w.cell? ⟨g, o + i * 8 + 6, none⟩ = some (.int .u64 (e.bits : Int)) ∧ w.cell? ⟨g, o + i * 8 + 7, none⟩ = some (.slice a e.data.length cap) := by
  obtain ⟨dv, h0, h1, h2, h3, h4, h5, h6, h7, h8⟩ := h
  obtain ⟨a, cap, rfl⟩ := crow_form h8
  exact ⟨a, cap, h8, h0, h1, h2, h3, h4, h5, h6, h7⟩

def lgAux : Nat → List Ev → Bool
  | _, [] => false
  | n, e :: es => if 100 < e.tenant.size ∨ 5000 < n + e.data.length then true else lgAux (n + e.data.length) es
def largeB (es : List Ev) : Bool := lgAux 0 (es.take 250) || decide (250 < es.length)
theorem lgAux_small : ∀ (es : List Ev) (n : Nat), lgAux n es = false → n ≤ 5000 → ∀ e ∈ es, e.tenant.size ≤ 100 ∧ e.data.length ≤ 5000
  | [], n, _, _, e, he => by cases he
  | f :: es, n, h, hn, e, he => by
    unfold lgAux at h
    split at h
    · cases h
    · rename_i hc
      rcases List.mem_cons.1 he with rfl | he
      · omega
      · exact lgAux_small es _ h (by omega) e he
theorem large_small (es : List Ev) (h : largeB es = false) : es.length ≤ 250 ∧ ∀ e ∈ es, e.tenant.size ≤ 100 ∧ e.data.length ≤ 5000 := by
  unfold largeB at h
  rw [Bool.or_eq_false_iff] at h
  have hl : es.length ≤ 250 := by have := of_decide_eq_false h.2; omega
  refine ⟨hl, ?_⟩
  have h1 := h.1
  rw [List.take_of_length_le hl] at h1
  exact lgAux_small es 0 h1 (by omega)
theorem erow_form {w : World} {v : Value} {es : List Ev} (h : ERow w v es) : ∃ a cap, v = .slice a es.length cap := by
  rcases h with ⟨rfl, a, cap, rfl⟩ | ⟨g, o, cap, rfl, _⟩
  · exact ⟨_, _, rfl⟩
  · exact ⟨_, _, rfl⟩
theorem erow_at {w : World} {a : Option Addr} {n cap : Nat} {es : List Ev} (h : ERow w (.slice a n cap) es) (hl : 0 < es.length) : ∃ g o, a = some ⟨g, o, none⟩ ∧ ∀ (i : Nat) (e : Ev), es[i]? = some e → EvIn w g o i e := by
  rcases h with ⟨rfl, _⟩ | ⟨g, o, cap', e, h⟩
  · simp at hl
  · cases e
    exact ⟨g, o, rfl, h⟩
set_option maxRecDepth 100000 in
set_option maxHeartbeats 4000000 in
theorem large41 (es : List Ev) (v : Value) (w : World) (h : ERow w v es) (hn : es.length ≤ 1000000000000000) (hs : ∀ e ∈ es, e.tenant.size ≤ 1000000000000000 ∧ e.data.length ≤ 1000000000000000) :
    Calls Tryz.prog 4 #[v] w fun e w' => e = .returned (.bool (largeB es)) ∧ w = w' := by
  obtain ⟨a, cap, rfl⟩ := erow_form h
  have H := Lib.hid h
  have HS := Lib.hid hs
  clear h hs
  obtain ⟨R, hR⟩ : ∃ R, R = largeB es := ⟨_, rfl⟩
  rw [← hR]
  have HR : Hid (R = (lgAux 0 ((es.take 250).drop 0) || decide (250 < es.length))) := Lib.hid hR
  obtain ⟨n, hN⟩ : ∃ n, n = es.length := ⟨_, rfl⟩
  rw [← hN] at hn H HR ⊢
  have HN := Lib.hid hN
  clear hR hN
  go_enter Tryz.func4, Tryz.ntmps4
  go_wp2
  go_loop [3, 4] (fun u v => ∃ k m : Nat, k ≤ n ∧ k ≤ 250 ∧ m ≤ 5000 ∧ v = .int .i64 (k : Int) ∧ u = .int .i64 (m : Int) ∧ Hid (R = (lgAux m ((es.take 250).drop k) || decide (250 < n)))) (fun _ v => n - (intOf v).toNat)
  case atStart => exact ⟨0, 0, by omega, by omega, by omega, rfl, rfl, HR⟩
  case round =>
    obtain ⟨k, m, hk, hk2, hm, rfl, rfl, hr⟩ := hrel
    by_cases hlt : k < n
    · by_cases h250 : k < 250
      · have hl : k < es.length := by have := HN.out; omega
        obtain ⟨g, o, rfl, hev⟩ := erow_at H.out (by omega)
        obtain ⟨dv, _, _, _, c3, _, _, _, c7, hcr⟩ := hev k es[k] (List.getElem?_eq_getElem hl)
        obtain ⟨a1, cc, rfl⟩ := crow_form hcr
        have hsz := HS.out es[k] (List.getElem_mem hl)
        have hd : (es.take 250).drop k = es[k] :: (es.take 250).drop (k + 1) := by
          rw [List.drop_eq_getElem_cons (by simp; omega), List.getElem_take]
        have hst := hr.out
        rw [hd, lgAux] at hst
        have HST := Lib.hid hst
        clear hd hst hev hcr hr
        generalize hx : es[k].tenant = x at *
        generalize hy : es[k].data.length = y at *
        clear hx hy
        have wk : IntKind.i64.wrap ((k : Int) + 1) = (k : Int) + 1 := IntWalk.i64_in _ (by omega)
        have wm : IntKind.i64.wrap ((m : Int) + (y : Int)) = (m : Int) + (y : Int) := IntWalk.i64_in _ (by omega)
        by_cases h1 : 100 < x.size
        · have t1 : decide ((100 : Int) < (x.size : Int)) = true := decide_eq_true (by omega)
          have hv : R = true := by rw [HST.out, if_pos (.inl h1)]; rfl
          have HV := Lib.hid hv
          clear hv
          go_wp2
          go_ret
          exact ⟨by rw [HV.out]; rfl, rfl⟩
        · have t1 : decide ((100 : Int) < (x.size : Int)) = false := decide_eq_false (by omega)
          by_cases h2 : 5000 < m + y
          · have t2 : decide ((5000 : Int) < (m : Int) + (y : Int)) = true := decide_eq_true (by omega)
            have hv : R = true := by rw [HST.out, if_pos (.inr h2)]; rfl
            have HV := Lib.hid hv
            clear hv
            go_wp2
            go_ret
            exact ⟨by rw [HV.out]; rfl, rfl⟩
          · have t2 : decide ((5000 : Int) < (m : Int) + (y : Int)) = false := decide_eq_false (by omega)
            have hv : R = (lgAux (m + y) ((es.take 250).drop (k + 1)) || decide (250 < n)) := by rw [HST.out, if_neg (by omega)]
            have HV := Lib.hid hv
            clear hv
            go_wp2
            go_round
            case rel => exact ⟨k + 1, m + y, by omega, by omega, by omega, by go_num, by go_num, HV⟩
            case measure => simp [intOf]; omega
      · have t2 : decide ((k : Int) < 250) = false := decide_eq_false (by omega)
        have hk3 : k = 250 := by omega
        subst hk3
        have tn : decide ((250 : Int) < (n : Int)) = true := decide_eq_true (by omega)
        have hv : R = true := by rw [hr.out, decide_eq_true (show 250 < n from hlt)]; simp
        have HV := Lib.hid hv
        clear hv hr
        go_wp2
        go_ret
        exact ⟨by rw [HV.out]; rfl, rfl⟩
    · have hv : R = false := by
        have := HN.out
        rw [hr.out, decide_eq_false (by omega), List.drop_eq_nil_of_le (by simp; omega)]
        rfl
      have tn : decide ((250 : Int) < (n : Int)) = false := decide_eq_false (by omega)
      have HV := Lib.hid hv
      clear hv hr
      go_wp2
      go_ret
      exact ⟨by rw [HV.out]; rfl, rfl⟩
end Go.Proofs.YtinabbdecmjcpaaGreatDoor.Script

namespace Go.Proofs.YtinabbdecmjcpaaGreatDoor.Script
open Go.RowKit Go.Proofs.YtinabbdecmjcpaaGreatDoor Go.Proofs.YtinabbdecmjcpaaGreatDoor.Plain Go.Proofs.YtinabbdecmjcpaaGreatDoor.Words Go.Proofs.YtinabbdecmjcpaaGreatDoor.Named Go.Proofs.YtinabbdecmjcpaaGreatDoor.Hex Go.Proofs.YtinabbdecmjcpaaGreatDoor.Number Go.Proofs.YtinabbdecmjcpaaGreatDoor.Queue Go.Proofs.YtinabbdecmjcpaaGreatDoor.Line Go.Proofs.YtinabbdecmjcpaaGreatDoor.Ev
open Go.ChangeShapes Go.WideShapes Go.ChangeAt Go.Deep
set_option linter.unusedVariables false

/-- What is known of the numbers and lengths of an event that came in. -/
structure EvBnd (e : Ev) : Prop where
  kind : -9223372036854775808 ≤ e.kind ∧ e.kind ≤ 9223372036854775807
  session : -9223372036854775808 ≤ e.session ∧ e.session ≤ 9223372036854775807
  stream : -9223372036854775808 ≤ e.stream ∧ e.stream ≤ 9223372036854775807
  m : -9223372036854775808 ≤ e.m ∧ e.m ≤ 9223372036854775807
  n : e.n < 18446744073709551616
  bits : e.bits < 18446744073709551616
  tenant : e.tenant.size ≤ reachBytes
  data : e.data.length ≤ reachBytes
theorem EvBnd.fits {e : Ev} (h : EvBnd e) : Fits e := ⟨h.session.2, h.stream.2, h.m.2, h.n, h.bits⟩
theorem list8 {α : Type} {l : List α} (h : l.length = 8) : ∃ a b c d e f g i, l = [a, b, c, d, e, f, g, i] := by
  match l, h with
  | [a, b, c, d, e, f, g, i], _ => exact ⟨a, b, c, d, e, f, g, i, rfl⟩
theorem mem_weightsAll {H : Type} {P : Program} {e : TypeId} : ∀ {l : List (DataW H)} {x : DataW H}, x ∈ l → ∀ n ∈ x.weights P e, n ∈ DataW.weightsAll P e l
  | [], x, h, _, _ => by cases h
  | d :: l, x, h, n, hn => by
    simp only [DataW.weightsAll, List.mem_append]
    rcases List.mem_cons.1 h with rfl | h
    · exact .inl hn
    · exact .inr (mem_weightsAll h n hn)
theorem weights_elem {H : Type} {P : Program} {t e : TypeId} {elems spare : List (DataW H)} (hu : P.underlying t = some (.slice e)) {x : DataW H} (hx : x ∈ elems) (n : Nat) (hn : n ∈ x.weights P e) : n ∈ (DataW.slice elems spare).weights P t := by
  simp only [DataW.weights, hu, List.mem_cons, List.mem_append]
  exact .inr (.inl (mem_weightsAll hx n hn))
theorem weights_len {H : Type} {P : Program} {t e : TypeId} {elems spare : List (DataW H)} (hu : P.underlying t = some (.slice e)) : (elems.length + spare.length) * P.bytesOf e ∈ (DataW.slice elems spare).weights P t := by
  simp [DataW.weights, hu]
section
variable {H : Type} {enc : TypeId × Value → H} {W : World} {base : Nat} {spare : Nat → Bool} {held : Bool}
theorem open_bytes_len {fuel : Nat} {v : Value} {x : DataW H × List MemPlace} (h : DataW.trod enc Tryz.prog W base spare held fuel 42 [v] = some x) (hw : ∀ n ∈ x.1.weights Tryz.prog 42, n ≤ reachBytes) {l : List UInt8} (hr : CRow W v l) : l.length ≤ reachBytes := by
  obtain ⟨a0, c0, rfl⟩ := crow_form hr
  rcases open_ints Tryz.underlying42 Tryz.underlying5 (by kernel_rfl) h with ⟨hcs, _⟩ | ⟨a, len, cap, zs, hcs, _, hl, hm, hz, hx, hcell, hwf⟩
  · simp at hcs
    rw [hcs.2.1]
    exact Nat.zero_le _
  · simp at hcs
    obtain ⟨rfl, rfl, rfl⟩ := hcs
    have h1 := hw _ (by rw [hx]; exact weights_len Tryz.underlying42)
    rw [show Tryz.prog.bytesOf 5 = 1 by kernel_rfl, Nat.mul_one] at h1
    have hlz : l.length ≤ zs.length := by
      have : l.length ≤ (if spare a.block then c0 else l.length) := by split <;> omega
      rw [hz]; exact this
    simp [lits] at h1
    omega
theorem open_events {E : TypeId} {f0 f1 f2 f3 f4 f5 f6 f7 : Field} (hT : Tryz.prog.underlying 25 = some (.slice E)) (hE : Tryz.prog.underlying E = some (.struct #[f0, f1, f2, f3, f4, f5, f6, f7])) (hC : Tryz.prog.cellsOf E = 8) (hY : Tryz.prog.bytesOf E = 88)
    (t0 : f0.type = 3) (t1 : f1.type = 3) (t2 : f2.type = 3) (t3 : f3.type = 9) (t4 : f4.type = 41) (t5 : f5.type = 3) (t6 : f6.type = 41) (t7 : f7.type = 42)
    (o0 : f0.offset = 0) (o1 : f1.offset = 1) (o2 : f2.offset = 2) (o3 : f3.offset = 3) (o4 : f4.offset = 4) (o5 : f5.offset = 5) (o6 : f6.offset = 6) (o7 : f7.offset = 7)
    {v : Value} {d : DataW H} {p : List MemPlace} (hv : ∃ a len cap, v = .slice a len cap) (h : DataW.Trod enc Tryz.prog W base spare held 25 v d p) (hw : ∀ n ∈ d.weights Tryz.prog 25, n ≤ reachBytes) : ∃ es : List Ev, ERow W v es ∧ es.length ≤ reachBytes ∧ ∀ e ∈ es, EvBnd e := by
  obtain ⟨a0, len0, cap0, rfl⟩ := hv
  obtain ⟨fuel, hf⟩ := h
  rcases open_slice hT hf with ⟨hcs, _⟩ | ⟨a, len, cap, m, n, D, Pl, hcs, _, hl, hm, hmm, hxx, hel⟩
  · simp [Value.cells] at hcs
    obtain ⟨rfl, rfl, rfl⟩ := hcs
    exact ⟨[], .inl ⟨rfl, _, _, rfl⟩, Nat.zero_le _, (fun e he => by cases he)⟩
  · simp [Value.cells] at hcs
    obtain ⟨rfl, rfl, rfl⟩ := hcs
    have hlm : len0 ≤ m := by rw [hmm]; split <;> omega
    have hd : d = .slice ((List.range len0).map D) ((List.range (m - len0)).map fun j => D (len0 + j)) := congrArg Prod.fst hxx
    have hlr : len0 ≤ reachBytes := by
      have h1 := hw _ (by rw [hd]; exact weights_len hT)
      rw [hY] at h1
      simp at h1
      omega
    by_cases h0 : len0 = 0
    · subst h0
      exact ⟨[], .inl ⟨rfl, _, _, rfl⟩, Nat.zero_le _, (fun e he => by cases he)⟩
    obtain ⟨g, o, spot⟩ := a
    have key : ∀ i, i < len0 → ∃ (e : Ev) (dv : Value), EvBnd e ∧ CRow W dv e.data ∧ (W.cell? ((⟨g, o, spot⟩ : Addr).add (i * 8)) = some (.int .i64 e.kind)) ∧ (W.cell? (((⟨g, o, spot⟩ : Addr).add (i * 8)).add 1) = some (.int .i64 e.session)) ∧ (W.cell? (((⟨g, o, spot⟩ : Addr).add (i * 8)).add 2) = some (.int .i64 e.stream)) ∧ (W.cell? (((⟨g, o, spot⟩ : Addr).add (i * 8)).add 3) = some (.string e.tenant)) ∧ (W.cell? (((⟨g, o, spot⟩ : Addr).add (i * 8)).add 4) = some (.int .u64 (e.n : Int))) ∧ (W.cell? (((⟨g, o, spot⟩ : Addr).add (i * 8)).add 5) = some (.int .i64 e.m)) ∧ (W.cell? (((⟨g, o, spot⟩ : Addr).add (i * 8)).add 6) = some (.int .u64 (e.bits : Int))) ∧ (W.cell? (((⟨g, o, spot⟩ : Addr).add (i * 8)).add 7) = some dv) := by
      intro i hi
      obtain ⟨cs', hc, ht'⟩ := hel i (by omega)
      rw [hC] at hc
      obtain ⟨xs, n', _, hxa, hlen, hxl, hf'⟩ := DataW.trod_struct hE ht'
      have hDw : ∀ n ∈ (D i).weights Tryz.prog E, n ≤ reachBytes := fun n hn => hw n (by rw [hd]; exact weights_elem hT (List.mem_map.2 ⟨i, by simpa using hi, rfl⟩) n hn)
      have hDi : D i = .agg (xs.map (·.1)) := congrArg Prod.fst hxa
      obtain ⟨_, hcl, hat⟩ := World.cells?_some hc
      have g0 := hf' 0 f0 rfl
      have g1 := hf' 1 f1 rfl
      have g2 := hf' 2 f2 rfl
      have g3 := hf' 3 f3 rfl
      have g4 := hf' 4 f4 rfl
      have g5 := hf' 5 f5 rfl
      have g6 := hf' 6 f6 rfl
      have g7 := hf' 7 f7 rfl
      rw [t0, o0, show Tryz.prog.cellsOf 3 = 1 by kernel_rfl] at g0
      rw [t1, o1, show Tryz.prog.cellsOf 3 = 1 by kernel_rfl] at g1
      rw [t2, o2, show Tryz.prog.cellsOf 3 = 1 by kernel_rfl] at g2
      rw [t3, o3, show Tryz.prog.cellsOf 9 = 1 by kernel_rfl] at g3
      rw [t4, o4, show Tryz.prog.cellsOf 41 = 1 by kernel_rfl] at g4
      rw [t5, o5, show Tryz.prog.cellsOf 3 = 1 by kernel_rfl] at g5
      rw [t6, o6, show Tryz.prog.cellsOf 41 = 1 by kernel_rfl] at g6
      rw [t7, o7, show Tryz.prog.cellsOf 42 = 1 by kernel_rfl] at g7
      obtain ⟨c0, c1, c2, c3, c4, c5, c6, c7, rfl⟩ := list8 hcl
      obtain ⟨x0, x1, x2, x3, x4, x5, x6, x7, rfl⟩ := list8 hxl
      obtain ⟨k0, e0, _, w0⟩ := DataW.trod_int Tryz.underlying3 (show DataW.trod enc Tryz.prog W base spare held n' 3 [c0] = some x0 from g0)
      obtain ⟨k1, e1, _, w1⟩ := DataW.trod_int Tryz.underlying3 (show DataW.trod enc Tryz.prog W base spare held n' 3 [c1] = some x1 from g1)
      obtain ⟨k2, e2, _, w2⟩ := DataW.trod_int Tryz.underlying3 (show DataW.trod enc Tryz.prog W base spare held n' 3 [c2] = some x2 from g2)
      obtain ⟨k3, e3, hx3, w3⟩ := DataW.trod_string Tryz.underlying9 (show DataW.trod enc Tryz.prog W base spare held n' 9 [c3] = some x3 from g3)
      obtain ⟨k4, e4, _, w4⟩ := DataW.trod_int Tryz.underlying41 (show DataW.trod enc Tryz.prog W base spare held n' 41 [c4] = some x4 from g4)
      obtain ⟨k5, e5, _, w5⟩ := DataW.trod_int Tryz.underlying3 (show DataW.trod enc Tryz.prog W base spare held n' 3 [c5] = some x5 from g5)
      obtain ⟨k6, e6, _, w6⟩ := DataW.trod_int Tryz.underlying41 (show DataW.trod enc Tryz.prog W base spare held n' 41 [c6] = some x6 from g6)
      obtain ⟨l, hrow, _⟩ := open_bytes (show DataW.trod enc Tryz.prog W base spare held n' 42 [c7] = some x7 from g7)
      have hag : ∀ n ∈ DataW.weightsEach Tryz.prog [f0.type, f1.type, f2.type, f3.type, f4.type, f5.type, f6.type, f7.type] [x0.1, x1.1, x2.1, x3.1, x4.1, x5.1, x6.1, x7.1], n ≤ reachBytes := fun n hn => hDw n (by rw [hDi]; simp only [DataW.weights, hE]; exact hn)
      have hl3 : k3.size ≤ reachBytes := hag _ (DataW.weights_mem_each (j := 3) (t := f3.type) (d := x3.1) rfl rfl _ (by rw [hx3]; simp [DataW.weights]))
      have hlen' : l.length ≤ reachBytes := open_bytes_len (show DataW.trod enc Tryz.prog W base spare held n' 42 [c7] = some x7 from g7) (fun n hn => hag n (DataW.weights_mem_each (j := 7) (t := f7.type) (d := x7.1) rfl rfl n (by rw [t7]; exact hn))) hrow
      simp at e0 e1 e2 e3 e4 e5 e6
      subst e0 e1 e2 e3 e4 e5 e6
      obtain ⟨q0, q1⟩ := bounds_u64 w4
      obtain ⟨q2, q3⟩ := bounds_u64 w6
      refine ⟨⟨k0, k1, k2, k3, k4.toNat, k5, k6.toNat, l⟩, c7, ⟨bounds_i64 w0, bounds_i64 w1, bounds_i64 w2, bounds_i64 w5, by show k4.toNat < _; omega, by show k6.toNat < _; omega, hl3, hlen'⟩, hrow, by simpa [Addr.add] using hat 0 (by omega), hat 1 (by omega), hat 2 (by omega), hat 3 (by omega), ?_, hat 5 (by omega), ?_, hat 7 (by omega)⟩
      · have := hat 4 (by omega)
        rw [this]
        show some (Value.int .u64 k4) = some (.int .u64 (k4.toNat : Int))
        rw [Int.toNat_of_nonneg q0]
      · have := hat 6 (by omega)
        rw [this]
        show some (Value.int .u64 k6) = some (.int .u64 (k6.toNat : Int))
        rw [Int.toNat_of_nonneg q2]
    obtain ⟨_, _, _, _, a0, _⟩ := key 0 (by omega)
    have hspot : spot = none := by simpa [Addr.add] using World.cell?_spot a0
    subst hspot
    have key2 : ∀ i : Fin len0, ∃ e : Ev, EvBnd e ∧ EvIn W g o i.val e := fun i => by
      obtain ⟨e, dv, hb, hr, b0, b1, b2, b3, b4, b5, b6, b7⟩ := key i.val i.isLt
      rw [addr_add] at b0 b1 b2 b3 b4 b5 b6 b7
      rw [addr_add] at b1 b2 b3 b4 b5 b6 b7
      exact ⟨e, hb, dv, b0, b1, b2, b3, b4, b5, b6, b7, hr⟩
    refine ⟨List.ofFn fun i => Classical.choose (key2 i), .inr ⟨g, o, cap0, by simp, fun i e he => ?_⟩, by simp; omega, fun e he => ?_⟩
    · obtain ⟨hi, he⟩ := List.getElem?_eq_some_iff.1 he
      have hi' : i < len0 := by simpa using hi
      rw [List.getElem_ofFn] at he
      rw [← he]
      exact (Classical.choose_spec (key2 ⟨i, hi'⟩)).2
    · obtain ⟨i, rfl⟩ := List.mem_ofFn.1 he
      exact (Classical.choose_spec (key2 i)).1
end
end Go.Proofs.YtinabbdecmjcpaaGreatDoor.Script
