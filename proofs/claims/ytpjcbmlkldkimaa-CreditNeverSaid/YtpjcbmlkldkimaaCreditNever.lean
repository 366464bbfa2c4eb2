/- CreditNever: for every first credit and every list of numbers the law returns true, and the list reads afterwards as before. The frame is proof-skeleton.mjs's; the walk is ours. -/
import Derived.Test.YtpjcbmlkldkimaaRows
import Derived.WalkKit
import Derived.ProofKit
import Derived.OpenShut
import Derived.ShutString
import Derived.ChangeOld
import Derived.Below
import Derived.Outline
import Derived.Lib.Hide
import Derived.Test.YtpjcbmlkldkimaaCredit
namespace Go.Proofs.Ytpjcbmlkldkimaa.creditNever
open Go.ChangeShapes Go.WideShapes Go.ChangeAt Go.RowKit
open Go.ChangeMaps (open_string shut_string)
open Go.Proofs.Ytpjcbmlkldkimaa.Credit
set_option linter.unusedVariables false

theorem own : ownKnob Try.prog.godebug = none := by kernel_rfl
theorem laidOut : laidOutB Try.prog = true := by kernel_rfl

/-- WHAT THE WALK IS TOLD OF A SLICE OF INTEGERS THAT CAME IN: it is nil; or it leads to a row of 'cap' cells, the numbers 'zs' (the first 'len' are its elements, the rest its spare room), each fitting its kind. -/
def IsRow (k : IntKind) (w : World) (a : Option Addr) (len cap : Nat) (zs : List Int) : Prop :=
  (a = none ∧ len = 0 ∧ cap = 0 ∧ zs = []) ∨
  ∃ x, a = some x ∧ len ≤ cap ∧ cap ≤ maxLen ∧ zs.length = cap ∧ (∀ i, i < zs.length → w.cell? (x.add i) = some (.int k (zs.getD i 0))) ∧ ∀ n ∈ zs, (Lit.int k n).wf = true

/-- What the loop keeps: the counter, the sum, and the window's credit, which is the sum. -/
def Rel (B len : Nat) (w : World) (s i : Value) (wr : World) : Prop :=
  ∃ (k : Nat) (m : Int), k ≤ len ∧ i = .int .i64 k ∧ s = .int .i64 m ∧ 0 ≤ m ∧ m ≤ 1048576 ∧ wr.cell? ⟨B, 0, none⟩ = some (.int .i64 m) ∧ wr.frozen? ⟨B, 0, none⟩ = false ∧ B < wr.heap.size ∧ Below B w wr

theorem addr_add (b off k : Nat) : (⟨b, off, none⟩ : Addr).add k = ⟨b, off + k, none⟩ := by
  unfold Addr.add
  split
  · simp_all
  · rfl

theorem rel_step {B : Nat} {w w1 : World} {u : Value} {o : Obj} (v : Value) (hz : B < w1.heap.size) (hc : w1.cell? ⟨B, 0, none⟩ = some u) (hf : w1.frozen? ⟨B, 0, none⟩ = false) (hb : Below B w w1) :
    ((w1.setCell ⟨B, 0, none⟩ v).alloc o).cell? ⟨B, 0, none⟩ = some v ∧ ((w1.setCell ⟨B, 0, none⟩ v).alloc o).frozen? ⟨B, 0, none⟩ = false ∧ B < ((w1.setCell ⟨B, 0, none⟩ v).alloc o).heap.size ∧ Below B w ((w1.setCell ⟨B, 0, none⟩ v).alloc o) :=
  ⟨(World.cell?_alloc_past _ _ _ (by simpa using hz)).trans (World.cell?_setCell_same _ _ _ hc), (World.frozen?_alloc_past _ _ _ (by simpa using hz)).trans (by simpa using hf), by simp; omega, (hb.setCell (Nat.le_refl _) _).alloc (by simp; omega) _⟩

theorem walk_more (c : Int) (b off len cap : Nat) (w : World) (hc0 : 0 ≤ c) (hc1 : c ≤ 65535) (hl : len ≤ 200) (hb : b < w.heap.size)
    (hrow : ∀ k, k < len → ∃ x : Int, w.cell? ⟨b, off + k, none⟩ = some (.int .i32 x) ∧ -2147483648 ≤ x ∧ x ≤ 2147483647) :
    Calls Try.prog 3 #[.int .u16 c, .slice (some ⟨b, off, none⟩) len cap] w fun e w' => e = .returned (.bool true) ∧ Below w.heap.size w w' := by
  have HR := Lib.hid hrow
  clear hrow
  go_enter Try.func3, Try.ntmps3
  go_wp2
  go_loopw [6, 7] (fun s i wr => Rel w.heap.size len w s i wr) (fun _ i _ => len - (intOf i).toNat)
  case atStart => exact ⟨0, c, by omega, rfl, rfl, by omega, by omega, by simp, by simp, by simp, (Below.refl _ _).alloc (Nat.le_refl _) _⟩
  case round =>
    obtain ⟨k, m, hk, rfl, rfl, hm0, hm1, hcell, hfr, hsz, hbel⟩ := hrel
    by_cases hlt : k < len
    · obtain ⟨x, hx, hx0, hx1⟩ := HR.out k hlt
      have hxr : wr.cell? ⟨b, off + k, none⟩ = some (.int .i32 x) := (hbel.cell (p := ⟨b, off + k, none⟩) hb).trans hx
      clear hx
      by_cases hx2 : 0 ≤ x
      · by_cases hok : 1 ≤ x ∧ x ≤ 1048576 ∧ m ≤ 1048576 - x
        · obtain ⟨g1, g2, g3⟩ := hok
          go_wp2_with fail
          refine (grant_ok m x _ hm0 g1 g2 g3).mono ?_
          rintro e w1 ⟨rfl, hb1⟩
          have hz1 : w.heap.size < w1.heap.size := Nat.lt_of_lt_of_le hsz hb1.size
          have hcl1 : w1.cell? ⟨w.heap.size, 0, none⟩ = some (.int .i64 m) := (hb1.cell (p := ⟨w.heap.size, 0, none⟩) hsz).trans hcell
          have hfr1 : w1.frozen? ⟨w.heap.size, 0, none⟩ = false := (hb1.frozen (p := ⟨w.heap.size, 0, none⟩) hsz).trans hfr
          go_wp2
          go_roundw
          case rel => exact ⟨k + 1, m + x, by omega, by go_num, rfl, by omega, by omega, rel_step _ hz1 hcl1 hfr1 (hbel.trans (hb1.mono (by omega)))⟩
          case measure => simp [intOf]; omega
        · have hno : x < 1 ∨ 1048576 < x ∨ 1048576 - x < m := by omega
          have HN := Lib.hid hno
          clear hno hok
          go_wp2_with fail
          refine (grant_no m x _ hm0 hx2 hm1 HN.out).mono ?_
          rintro e w1 ⟨rfl, hb1⟩
          have hz1 : w.heap.size < w1.heap.size := Nat.lt_of_lt_of_le hsz hb1.size
          have hcl1 : w1.cell? ⟨w.heap.size, 0, none⟩ = some (.int .i64 m) := (hb1.cell (p := ⟨w.heap.size, 0, none⟩) hsz).trans hcell
          have hfr1 : w1.frozen? ⟨w.heap.size, 0, none⟩ = false := (hb1.frozen (p := ⟨w.heap.size, 0, none⟩) hsz).trans hfr
          go_wp2
          go_roundw
          case rel => exact ⟨k + 1, m, by omega, by go_num, rfl, by omega, by omega, rel_step _ hz1 hcl1 hfr1 (hbel.trans (hb1.mono (by omega)))⟩
          case measure => simp [intOf]; omega
      · have hsp : 0 ≤ spent m (-x) ∧ spent m (-x) ≤ m := by unfold spent; split <;> omega
        obtain ⟨s0, s1⟩ := hsp
        go_wp2_with fail
        refine (spend_any m (-x) _ hm0 hm1 (by omega)).mono ?_
        rintro e w1 ⟨rfl, hb1⟩
        have hz1 : w.heap.size < w1.heap.size := Nat.lt_of_lt_of_le hsz hb1.size
        have hcl1 : w1.cell? ⟨w.heap.size, 0, none⟩ = some (.int .i64 m) := (hb1.cell (p := ⟨w.heap.size, 0, none⟩) hsz).trans hcell
        have hfr1 : w1.frozen? ⟨w.heap.size, 0, none⟩ = false := (hb1.frozen (p := ⟨w.heap.size, 0, none⟩) hsz).trans hfr
        generalize spent m (-x) = sp at *
        go_wp2
        go_roundw
        case rel => exact ⟨k + 1, m - sp, by omega, by go_num, rfl, by omega, by omega, rel_step _ hz1 hcl1 hfr1 (hbel.trans (hb1.mono (by omega)))⟩
        case measure => simp [intOf]; omega
    · go_wp2_with fail
      refine (awake_any _).mono ?_
      rintro e w1 ⟨rfl, hb1⟩
      go_wp2
      go_ret
      exact ⟨rfl, hbel.trans (hb1.mono (by omega))⟩

/-! ### STEP 1: THE WALK: the Go text returns true, AND WRITES NOTHING THAT WAS THERE: 'Below w.heap.size w w'' (Derived/Below.lean: '.refl', '.alloc', '.drew', '.setCell' at a new block, '.trans'). Open each 'IsRow' by 'rcases' AHEAD of 'go_enter'; part every test ahead of the walk. -/
theorem walk (a0 : Int) (a1 : Option Addr) (len1 cap1 : Nat) (z1 : List Int) (w : World) (w0 : (Lit.int .u16 a0).wf = true) (w1 : IsRow .i32 w a1 len1 cap1 z1) :
    Calls Try.prog 3 #[.int .u16 a0, .slice a1 len1 cap1] w fun e w' => e = .returned (.bool true) ∧ Below w.heap.size w w' := by
  obtain ⟨u0, u1⟩ := bounds_u16 w0
  by_cases hbig : 200 < len1
  · go_enter Try.func3, Try.ntmps3
    go_wp2_with fail
    refine (awake_any _).mono ?_
    rintro e w2 ⟨rfl, hb1⟩
    go_wp2
    go_ret
    exact ⟨rfl, hb1⟩
  · by_cases hz : len1 = 0
    · subst hz
      clear w1
      go_enter Try.func3, Try.ntmps3
      go_wp2
      go_loopw [6, 7] (fun s i wr => Rel w.heap.size 0 w s i wr) (fun _ i _ => 0 - (intOf i).toNat)
      case atStart => exact ⟨0, a0, by omega, rfl, rfl, by omega, by omega, by simp, by simp, by simp, (Below.refl _ _).alloc (Nat.le_refl _) _⟩
      case round =>
        obtain ⟨k, m, hk, rfl, rfl, hm0, hm1, hcell, hfr, hsz, hbel⟩ := hrel
        go_wp2_with fail
        refine (awake_any _).mono ?_
        rintro e w1 ⟨rfl, hb1⟩
        go_wp2
        go_ret
        exact ⟨rfl, hbel.trans (hb1.mono (by omega))⟩
    · rcases w1 with ⟨rfl, h0, _⟩ | ⟨⟨b, off, spot⟩, rfl, hl, hm, hzl, hcell, hwf⟩
      · omega
      · have hc0 := hcell 0 (by omega)
        have hspot : spot = none := by simpa [Addr.add] using World.cell?_spot hc0
        subst hspot
        have hbl : b < w.heap.size := by have := World.block_lt_of_cell? _ _ hc0; simpa [Addr.add] using this
        refine walk_more a0 b off len1 cap1 w u0 u1 (by omega) hbl fun k hk => ⟨z1.getD k 0, by rw [← addr_add]; exact hcell k (by omega), ?_⟩
        have hk' : k < z1.length := by omega
        have := hwf (z1.getD k 0) (by rw [List.getD_eq_getElem?_getD, List.getElem?_eq_getElem hk']; exact List.getElem_mem hk')
        exact bounds_i32 this

/-! ### THE ROW's STEP: WRITTEN OUT: LEAVE IT -/
set_option maxRecDepth 100000 in
theorem lifted (os : Os) (started : os.Started) (H : Type) (enc : TypeId × Value → H) :
    ReturnsInHanded {} Try.checked os 3 .any (Rows.creditNeverSpec.pre6 enc Try.prog Try.f3 Rows.creditNeverRow.domain false) (Rows.creditNeverSpec.post enc Try.prog Try.f3 false true false false) := by
  refine returnsInHanded_of_change (C := Try.checked) own started (by kernel_rfl) Try.func3
    (ChangeSpec.witness6 (enc := enc) (C := Try.checked) false ⟨#[], #[.int .u16 0, .slice none 0 0], []⟩ 8 (by kernel_rfl) (by kernel_rfl) (by kernel_rfl) (by kernel_rfl)) ?_
  intro W base args ds gs before hval0 hW hcnd _
  have hval : ∀ (j : Nat) t v, Try.f3.params[j]? = some t → args[j]? = some v → Value.okWide Try.prog W .any base t v := hval0
  have hW' := hW
  obtain ⟨p, q, hA0, hV, rfl, hfz, hnd⟩ := hW
  have hA : DataW.TrodAll enc Try.prog W 0 (fun _ => true) true Try.f3.params.toList args.toList ds p := hA0
  rw [Try.params3] at hA hval
  obtain ⟨v0, vs0, d0, ds0, p0, q0, hargs, rfl, rfl, h0, r0⟩ := trodAll_cons hA
  obtain ⟨v1, vs1, d1, ds1, p1, q1, rfl, rfl, rfl, h1, r1⟩ := trodAll_cons r0
  obtain ⟨rfl, rfl, rfl⟩ := trodAll_nil r1
  obtain rfl : args = #[v0, v1] := by cases args; simp_all
  obtain ⟨rfl, rfl⟩ := trodVars_none hV
  obtain ⟨a0, rfl, rfl, rfl, w0⟩ := open_int Try.underlying22 (hval 0 22 v0 rfl rfl) h0
  obtain ⟨a1, len1, cap1, rfl⟩ := okWide_slice Try.underlying23 (hval 1 23 v1 rfl rfl)
  have k1 := h1
  have lt1 : ∀ x ∈ p1, x.block < W.heap.size := by obtain ⟨m, hm⟩ := k1; exact DataW.trod_lt m _ _ _ hm
  obtain ⟨z1, w1⟩ : ∃ zs, IsRow .i32 W a1 len1 cap1 zs := by
    obtain ⟨fuel, hf⟩ := h1
    rcases open_ints Try.underlying23 Try.underlying21 (by kernel_rfl) hf with ⟨hcs, _⟩ | ⟨x, l, c, zs, hcs, _, hl, hm, hz, _, hcell, hwz⟩
    · simp [Value.cells] at hcs
      obtain ⟨rfl, rfl, rfl⟩ := hcs
      exact ⟨[], .inl ⟨rfl, rfl, rfl, rfl⟩⟩
    · simp [Value.cells] at hcs
      obtain ⟨rfl, rfl, rfl⟩ := hcs
      exact ⟨zs, .inr ⟨_, rfl, hl, hm, by simpa using hz, hcell, hwz⟩⟩
  clear hA0 hval0
  refine (walk a0 a1 len1 cap1 z1 W w0 w1).mono fun e W' ⟨he, bel⟩ => ?_
  subst he
  exact ⟨_, rfl, _, _, _, [], _, [], hW', trodAll_mk1 (shut_bool Try.underlying4 _), (trodAll_cons_mk (shut_int Try.underlying22 w0) (trodAll_cons_mk (Below.trod laidOut (by kernel_rfl) (of_decide_eq_true (by kernel_rfl)) k1 bel lt1) trodAll_mk0)), rfl, bel.frame _, fun h => by cases h⟩

theorem over : Rows.creditNeverRow.holds Try.pinned (OpenSpec.ofChange Rows.creditNeverSpec) :=
  OpenClaim.holds_of_wide 3 Try.f3 rfl rfl rfl rfl rfl rfl rfl ⟨rfl, rfl, rfl, rfl, rfl⟩ rfl rfl rfl rfl rfl (by kernel_rfl) Try.func3 (by kernel_rfl)
    (of_decide_eq_true (by kernel_rfl)) (by unfold Func.isWrapper; first | (rw [if_pos (by decide +kernel)]; kernel_rfl) | (rw [if_neg (by decide +kernel)]; exact ⟨rfl, rfl⟩))
    (fun os started H enc _ => lifted os started H enc)

/-- ████ THE STATEMENT ████ -/
theorem proved : Rows.CreditNeverSaid := over
#print axioms proved
end Go.Proofs.Ytpjcbmlkldkimaa.creditNever
