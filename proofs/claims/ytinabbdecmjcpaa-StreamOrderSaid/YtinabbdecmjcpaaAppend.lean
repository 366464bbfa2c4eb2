/- One append of bytes onto a row of the call's own: a law for the walk, with where the new row lies. -/
import Derived.Test.YtinabbdecmjcpaaRefDo2
import Derived.Maps.AppendAt
namespace Go.Proofs.Ytinabbdecmjcpaa.Queue
open Go.RowKit Go.Proofs.Ytinabbdecmjcpaa Go.Proofs.Ytinabbdecmjcpaa.Plain Go.Proofs.Ytinabbdecmjcpaa.Words Go.Proofs.Ytinabbdecmjcpaa.Hex
set_option linter.unusedVariables false

theorem run_append_bytes {w : World} (ty : TypeId) (base : Nat) (v xv : Value) (l l2 : List UInt8) (hown : Bys w base v l) (hrow : CRow w xv l2) (hlen : l.length + l2.length ≤ 1000000) (hbase : base ≤ w.heap.size) :
    ∃ (a' : Option Addr) (cap' : Nat) (w' : World), (Builtin.append_ #[22, 22] ty #[v, xv]).run Try.prog w = .ok (.slice a' (l.length + l2.length) cap') w' ∧ Bys w' base (.slice a' (l.length + l2.length) cap') (l ++ l2) ∧ w.grownBy w' v.ownBlock ∧
      ((Value.slice a' (l.length + l2.length) cap').ownBlock = v.ownBlock ∨ (Value.slice a' (l.length + l2.length) cap').ownBlock = some w.heap.size) := by
  obtain ⟨i0, hi, hz0, hz1, hz2⟩ := info_parts info5
  have hex : ∃ v' w', (Builtin.append_ #[22, 22] ty #[v, xv]).run Try.prog w = .ok v' w' ∧ Bys w' base v' (l ++ l2) ∧ w.grownBy w' v.ownBlock ∧ (v'.ownBlock = v.ownBlock ∨ v'.ownBlock = some w.heap.size) := by
    rcases hrow with ⟨rfl, ad, cap, rfl, hn, _⟩ | ⟨g, o', cap, rfl, h0, _, _, hg, hc⟩
    · cases ad with
      | none =>
        obtain rfl := hn rfl
        exact ⟨v, w, run_append_owned_none (P := Try.prog) (w := w) base 22 ty 5 i0 1 Try.underlying22 hi v l.length _ hown, by simpa using hown, ⟨rfl, rfl, rfl, Nat.le_refl _, fun _ _ _ => rfl⟩, .inl rfl⟩
      | some ad =>
        obtain ⟨v', w', h1, h2, h3, _, h5⟩ := run_append_own_at (P := Try.prog) w base 22 ty 5 i0 (.int .u8 0) 1 1 Try.underlying22 hi hz0 hz1 hz2 rfl (by decide) v l.length _ hown ad 0 cap [] rfl (fun j u hj => by simp at hj) (fun u hu => by simp at hu) (by unfold maxLen; omega) (by omega) hbase
        exact ⟨v', w', h1, by simpa [Bys] using h2, h3, h5⟩
    · obtain ⟨v', w', h1, h2, h3, _, h5⟩ := run_append_own_at (P := Try.prog) w base 22 ty 5 i0 (.int .u8 0) 1 1 Try.underlying22 hi hz0 hz1 hz2 rfl (by decide) v l.length _ hown ⟨g, o', none⟩ l2.length cap (l2.map bv) (by simp) (fun j u hj => by
          rw [addr_add]
          have hj' : j < l2.length := by
            have := (List.getElem?_eq_some_iff.1 hj).1
            simpa using this
          rw [hc j hj']
          simpa [hj'] using hj) (fun u hu => by
          obtain ⟨c, _, rfl⟩ := List.mem_map.1 hu
          rfl) (by unfold maxLen; omega) (by omega) hbase
      exact ⟨v', w', h1, by simpa [Bys] using h2, h3, h5⟩
  obtain ⟨v', w', hrun, h2, h3, h5⟩ := hex
  obtain ⟨a', cap', e⟩ := brow_form (bys_row h2)
  rw [List.length_append] at e
  subst e
  exact ⟨a', cap', w', hrun, h2, h3, h5⟩

theorem wpList_append_bytes {w : World} {ops : Array Oper} {rest : List Oper} {o : Oper} {a : Act} {Q : Exit → Act → World → Prop} (hgd : o.guard = none) (s x : Operand)
    (ho : o.op = .call { callee := .builtin .append, args := #[s, x], argTypes := #[22, 22] }) (base : Nat) (v xv : Value) (l l2 : List UInt8) (hs : a.eval s = v) (hx : a.eval x = xv) (hown : Bys w base v l) (hrow : CRow w xv l2)
    (hlen : l.length + l2.length ≤ 1000000) (hbase : base ≤ w.heap.size)
    (h : ∀ (a' : Option Addr) (cap' : Nat) w', Bys w' base (.slice a' (l.length + l2.length) cap') (l ++ l2) → w.grownBy w' v.ownBlock → ((Value.slice a' (l.length + l2.length) cap').ownBlock = v.ownBlock ∨ (Value.slice a' (l.length + l2.length) cap').ownBlock = some w.heap.size) → wpList Try.prog ops Q rest (a.put o.dst (.slice a' (l.length + l2.length) cap')) w') : wpList Try.prog ops Q (o :: rest) a w := by
  refine wpList_plain hgd fun K hK => ?_
  obtain ⟨a', cap', w', hrun, h2, h3, h5⟩ := run_append_bytes o.type base v xv l l2 hown hrow hlen hbase
  unfold Oper.wp
  simp [execOp, ho, resolve, invoke, builtin, hs, hx, hrun, Result.andThen]
  exact hK _ _ (h a' cap' w' h2 h3 h5)

/-- Two rows of the call's own that lie apart. -/
def Apart (v u : Value) : Prop := ∀ g, v.ownBlock = some g → u.ownBlock ≠ some g
theorem Apart.symm {v u : Value} (h : Apart v u) : Apart u v := fun g hu hv => h g hv hu
theorem bys_grown {w w' : World} {B : Nat} {v u : Value} {l : List UInt8} (h : Bys w B v l) (hg : w.grownBy w' u.ownBlock) (ha : Apart v u) : Bys w' B v l :=
  World.ownsRow.kept h hg (by
    cases hv : v.ownBlock with
    | none => exact .inl rfl
    | some g => exact .inr fun e => ha g hv e.symm)
theorem bys_lt {w : World} {B g : Nat} {v : Value} {l : List UInt8} (h : Bys w B v l) (hg : v.ownBlock = some g) : B ≤ g ∧ g < w.heap.size := World.ownsRow.lt h g hg
theorem apart_new {w : World} {B : Nat} {v u v' : Value} {l : List UInt8} (h : Bys w B u l) (ha : Apart v u) (hv : v'.ownBlock = v.ownBlock ∨ v'.ownBlock = some w.heap.size) : Apart v' u := by
  intro g hg hu
  rcases hv with e | e
  · rw [e] at hg; exact ha g hg hu
  · rw [e] at hg
    cases hg
    have := (bys_lt h hu).2
    omega
theorem bys_chg {w w' : World} {B : Nat} {bs : List Nat} {v : Value} {l : List UInt8} (h : Bys w B v l) (hc : Chg bs w w') (hb : ∀ b ∈ bs, b < B) : Bys w' B v l := by
  obtain ⟨h1, h2⟩ := h
  refine ⟨h1, ?_⟩
  rcases h2 with h2 | ⟨g, cap, cur, a, b, d, r⟩
  · exact .inl h2
  · exact .inr ⟨g, cap, cur, a, b, (hc.block g (lt_of_block d) (fun x => by have := hb g x; omega)).trans d, r⟩
end Go.Proofs.Ytinabbdecmjcpaa.Queue
