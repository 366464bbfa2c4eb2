/- Lists of steps (a kind, a number, bytes) that came in: what is known of their memory, and how it is read off the row's premise. -/
import Derived.Test.YtinabbdecmjcpaaAwake25
import Derived.Lib.SmallJoins
namespace Go.Proofs.Ytinabbdecmjcpaa.Queue
open Go.RowKit Go.Proofs.Ytinabbdecmjcpaa Go.Proofs.Ytinabbdecmjcpaa.Plain Go.Proofs.Ytinabbdecmjcpaa.Words Go.Proofs.Ytinabbdecmjcpaa.Hex
open Go.ChangeShapes Go.WideShapes Go.ChangeAt Go.Deep
set_option linter.unusedVariables false

/-- A slice of bytes, with what is known of its room. -/
def CRow (w : World) (v : Value) (l : List UInt8) : Prop :=
  (l = [] ∧ ∃ a cap, v = .slice a 0 cap ∧ (a = none → cap = 0) ∧ cap ≤ maxLen) ∨
  (∃ g o cap, v = .slice (some ⟨g, o, none⟩) l.length cap ∧ 0 < l.length ∧ l.length ≤ cap ∧ cap ≤ maxLen ∧ g < w.heap.size ∧ ∀ i (h : i < l.length), w.cell? ⟨g, o + i, none⟩ = some (bv l[i]))
theorem CRow.row {w : World} {v : Value} {l : List UInt8} (h : CRow w v l) : BRow w v l := by
  rcases h with ⟨rfl, a, cap, rfl, _⟩ | ⟨g, o, cap, rfl, _, _, _, hg, hc⟩
  · exact .inl ⟨rfl, a, cap, rfl⟩
  · exact .inr ⟨g, o, cap, rfl, hg, hc⟩
theorem crow_chg {w w' : World} {v : Value} {l : List UInt8} {bs : List Nat} (h : CRow w v l) (hc : Chg bs w w') (ho : ∀ b ∈ bs, Off v b) : CRow w' v l := by
  rcases h with h | ⟨g, o, cap, rfl, h0, h1, h2, hg, hcl⟩
  · exact .inl h
  · exact .inr ⟨g, o, cap, rfl, h0, h1, h2, Nat.lt_of_lt_of_le hg hc.size, fun i hi => (hc.cell (p := ⟨g, o + i, none⟩) hg (fun hb => ho g hb g o _ cap rfl h0 rfl)).trans (hcl i hi)⟩
theorem crow_below {w w' : World} {v : Value} {l : List UInt8} (h : CRow w v l) (hb : Below w.heap.size w w') : CRow w' v l := crow_chg h (Chg.of_below (bs := []) hb) (by simp)
theorem brow_chg {w w' : World} {v : Value} {l : List UInt8} {bs : List Nat} (h : BRow w v l) (hc : Chg bs w w') (ho : ∀ b ∈ bs, Off v b) : BRow w' v l := by
  rcases h with h | ⟨g, o, cap, rfl, hg, hcl⟩
  · exact .inl h
  · exact .inr ⟨g, o, cap, rfl, Nat.lt_of_lt_of_le hg hc.size, fun i hi => (hc.cell (p := ⟨g, o + i, none⟩) hg (fun hb => ho g hb g o _ cap rfl (by omega) rfl)).trans (hcl i hi)⟩
theorem bys_crow {w : World} {B : Nat} {v : Value} {l : List UInt8} (h : Bys w B v l) : CRow w v l := by
  have h' := h
  obtain ⟨h1, h2⟩ := h
  rcases h2 with ⟨rfl, h0⟩ | ⟨g, cap, cur, rfl, hB, hc, hn, hcap, hcz, ht⟩
  · exact .inl ⟨List.length_eq_zero_iff.1 h0, none, 0, rfl, fun _ => rfl, Nat.zero_le _⟩
  · by_cases h0 : l.length = 0
    · exact .inl ⟨List.length_eq_zero_iff.1 h0, some ⟨g, 0, none⟩, cap, by rw [h0], (fun h => by cases h), hcap⟩
    · refine .inr ⟨g, 0, cap, rfl, by omega, hn, hcap, lt_of_block hc, fun i hi => ?_⟩
      have := World.ownsRow.cellAt h' i (by simpa using hi)
      rw [Nat.zero_add]
      rw [this]
      simp [hi]
theorem crow_form {w : World} {v : Value} {l : List UInt8} (h : CRow w v l) : ∃ a cap, v = .slice a l.length cap := brow_form h.row
/-- Where a row lies. -/
theorem bys_off {w : World} {B b : Nat} {v : Value} {l : List UInt8} (h : Bys w B v l) (hb : b < B) : Off v b := by
  intro g o len cap e hl hg
  rcases h.2 with ⟨rfl, _⟩ | ⟨g', cap', cur, rfl, hB, _⟩
  · cases e
  · cases e; omega

/-- One step of a list that lies at an address. -/
structure StepAt (w : World) (g o i : Nat) (k n : Int) (v : Value) (l : List UInt8) : Prop where
  c0 : w.cell? ⟨g, o + i * 3, none⟩ = some (.int .i64 k)
  c1 : w.cell? ⟨g, o + i * 3 + 1, none⟩ = some (.int .i64 n)
  c2 : w.cell? ⟨g, o + i * 3 + 2, none⟩ = some v
  k0 : -9223372036854775808 ≤ k
  k1 : k ≤ 9223372036854775807
  n0 : -9223372036854775808 ≤ n
  n1 : n ≤ 9223372036854775807
  row : CRow w v l
  len : l.length ≤ maxLen
  off : ∀ b, w.heap.size ≤ b → Off v b

/-- A list of steps. -/
def Steps (w : World) (v : Value) (len : Nat) : Prop :=
  (len = 0 ∧ ∃ a cap, v = .slice a 0 cap) ∨ (∃ g o cap, v = .slice (some ⟨g, o, none⟩) len cap ∧ 0 < len ∧ len ≤ maxLen ∧ g < w.heap.size ∧ ∀ i, i < len → ∃ k n dv l, StepAt w g o i k n dv l)

theorem off_old {w : World} {v : Value} {l : List UInt8} (h : CRow w v l) (b : Nat) (hb : w.heap.size ≤ b) : Off v b := by
  intro g o len cap e hl
  rcases h with ⟨_, a, cap', rfl, _⟩ | ⟨g', o', cap', rfl, _, _, _, hg, _⟩
  · cases e; omega
  · cases e; omega

theorem list3 {α : Type} {l : List α} (h : l.length = 3) : ∃ a b c, l = [a, b, c] := by
  match l, h with
  | [a, b, c], _ => exact ⟨a, b, c, rfl⟩

section
variable {H : Type} {enc : TypeId × Value → H} {W : World} {base : Nat} {spare : Nat → Bool} {held : Bool}
/-- A slice of bytes, read. -/
theorem open_bytes {fuel : Nat} {v : Value} {x : DataW H × List MemPlace} (h : DataW.trod enc Try.prog W base spare held fuel 22 [v] = some x) : ∃ l : List UInt8, CRow W v l ∧ l.length ≤ maxLen := by
  rcases open_ints Try.underlying22 Try.underlying5 (by kernel_rfl) h with ⟨hcs, _⟩ | ⟨a, len, cap, zs, hcs, _, hl, hm, hz, _, hcell, hwf⟩
  · cases hcs
    exact ⟨[], .inl ⟨rfl, none, 0, rfl, fun _ => rfl, Nat.zero_le _⟩, Nat.zero_le _⟩
  · cases hcs
    by_cases h0 : len = 0
    · subst h0
      exact ⟨[], .inl ⟨rfl, some a, cap, rfl, (fun h => by cases h), hm⟩, Nat.zero_le _⟩
    · obtain ⟨b, off, spot⟩ := a
      have hlz : len ≤ zs.length := by
        have : len ≤ (if spare b then cap else len) := by split <;> omega
        rw [hz]; exact this
      have hc0 := hcell 0 (by omega)
      have hspot : spot = none := by simpa [Addr.add] using World.cell?_spot hc0
      subst hspot
      refine ⟨(zs.take len).map fun z => UInt8.ofNat z.toNat, .inr ⟨b, off, cap, by simp; omega, by simp; omega, by simp; omega, hm, by have := World.block_lt_of_cell? _ _ hc0; simpa [Addr.add] using this, fun i hi => ?_⟩, by simp; omega⟩
      have hi' : i < len := by simp at hi; omega
      have hiz : i < zs.length := by omega
      have h1 := hcell i hiz
      rw [addr_add] at h1
      rw [h1]
      have hmem : zs.getD i 0 ∈ zs := by rw [List.getD_eq_getElem?_getD, List.getElem?_eq_getElem hiz]; exact List.getElem_mem hiz
      obtain ⟨q0, q1⟩ := bounds_u8 (hwf _ hmem)
      have e : zs.getD i 0 = zs[i] := by rw [List.getD_eq_getElem?_getD, List.getElem?_eq_getElem hiz]; rfl
      rw [e] at q0 q1 ⊢
      simp [bv, UInt8.toNat_ofNat']
      omega

theorem open_steps {T E : TypeId} {f0 f1 f2 : Field} (hT : Try.prog.underlying T = some (.slice E)) (hE : Try.prog.underlying E = some (.struct #[f0, f1, f2])) (hC : Try.prog.cellsOf E = 3)
    (t0 : f0.type = 3) (t1 : f1.type = 3) (t2 : f2.type = 22) (o0 : f0.offset = 0) (o1 : f1.offset = 1) (o2 : f2.offset = 2)
    {v : Value} {d : DataW H} {p : List MemPlace} (hv : ∃ a len cap, v = .slice a len cap) (h : DataW.Trod enc Try.prog W base spare held T v d p) : ∃ len, Steps W v len ∧ len ≤ maxLen ∧ ∃ a cap, v = .slice a len cap := by
  obtain ⟨a0, len0, cap0, rfl⟩ := hv
  obtain ⟨fuel, hf⟩ := h
  rcases open_slice hT hf with ⟨hcs, _⟩ | ⟨a, len, cap, m, n, D, Pl, hcs, _, hl, hm, hmm, _, hel⟩
  · simp [Value.cells] at hcs
    obtain ⟨rfl, rfl, rfl⟩ := hcs
    exact ⟨0, .inl ⟨rfl, _, _, rfl⟩, Nat.zero_le _, _, _, rfl⟩
  · simp [Value.cells] at hcs
    obtain ⟨rfl, rfl, rfl⟩ := hcs
    have hlm : len0 ≤ m := by rw [hmm]; split <;> omega
    refine ⟨len0, ?_, by omega, _, _, rfl⟩
    by_cases h0 : len0 = 0
    · exact .inl ⟨h0, _, _, by rw [h0]⟩
    obtain ⟨g, o, spot⟩ := a
    have key : ∀ i, i < len0 → ∃ k n dv l, (W.cell? ((⟨g, o, spot⟩ : Addr).add (i * 3)) = some (.int .i64 k)) ∧ (W.cell? (((⟨g, o, spot⟩ : Addr).add (i * 3)).add 1) = some (.int .i64 n)) ∧ (W.cell? (((⟨g, o, spot⟩ : Addr).add (i * 3)).add 2) = some dv) ∧ (Lit.int .i64 k).wf = true ∧ (Lit.int .i64 n).wf = true ∧ CRow W dv l ∧ l.length ≤ maxLen := by
      intro i hi
      obtain ⟨cs', hc, ht'⟩ := hel i (by omega)
      rw [hC] at hc
      obtain ⟨xs, n', _, _, hlen, hxl, hf'⟩ := DataW.trod_struct hE ht'
      obtain ⟨_, hcl, hat⟩ := World.cells?_some hc
      have g0 := hf' 0 f0 rfl
      have g1 := hf' 1 f1 rfl
      have g2 := hf' 2 f2 rfl
      rw [t0, o0, show Try.prog.cellsOf 3 = 1 by kernel_rfl] at g0
      rw [t1, o1, show Try.prog.cellsOf 3 = 1 by kernel_rfl] at g1
      rw [t2, o2, show Try.prog.cellsOf 22 = 1 by kernel_rfl] at g2
      obtain ⟨c0, c1, c2, rfl⟩ := list3 hcl
      obtain ⟨x0, x1, x2, rfl⟩ := list3 hxl
      · obtain ⟨k, e0, _, wk⟩ := DataW.trod_int Try.underlying3 (show DataW.trod enc Try.prog W base spare held n' 3 [c0] = some x0 from g0)
        obtain ⟨nn, e1, _, wn⟩ := DataW.trod_int Try.underlying3 (show DataW.trod enc Try.prog W base spare held n' 3 [c1] = some x1 from g1)
        obtain ⟨l, hrow, hlen'⟩ := open_bytes (show DataW.trod enc Try.prog W base spare held n' 22 [c2] = some x2 from g2)
        simp at e0 e1
        subst e0 e1
        exact ⟨k, nn, c2, l, by simpa [Addr.add] using hat 0 (by omega), hat 1 (by omega), hat 2 (by omega), wk, wn, hrow, hlen'⟩
    obtain ⟨k, n, dv, l, a0, _⟩ := key 0 (by omega)
    have hspot : spot = none := by simpa [Addr.add] using World.cell?_spot a0
    subst hspot
    refine .inr ⟨g, o, cap0, rfl, by omega, by omega, by have := World.block_lt_of_cell? _ _ a0; simpa [Addr.add] using this, fun i hi => ?_⟩
    obtain ⟨k, n, dv, l, b0, b1, b2, wk, wn, hrow, hl'⟩ := key i hi
    rw [addr_add] at b0 b1 b2
    rw [addr_add] at b1 b2
    obtain ⟨p0, p1⟩ := bounds_i64 wk
    obtain ⟨q0, q1⟩ := bounds_i64 wn
    exact ⟨k, n, dv, l, b0, b1, b2, p0, p1, q0, q1, hrow, hl', fun b hb => off_old hrow b hb⟩
end
end Go.Proofs.Ytinabbdecmjcpaa.Queue
