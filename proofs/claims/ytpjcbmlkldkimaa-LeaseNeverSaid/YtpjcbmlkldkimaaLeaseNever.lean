/- LeaseNever: for every allowance and every list of numbers the law returns true, and its arguments read afterwards as before. -/
import Derived.Test.YtpjcbmlkldkimaaRows
import Derived.WalkKit
import Derived.ProofKit
import Derived.OpenShut
import Derived.ShutString
import Derived.ChangeOld
import Derived.Below
import Derived.Outline
import Derived.Lib.Hide
import Derived.Lib.SmallJoins
import Derived.Deep.RegionHeld3
import Derived.Deep.DrawnRows
import Derived.Deep.RegionWith
import Derived.Deep.DeepCutAuto
import Derived.Test.YtpjcbmlkldkimaaLeaseWalk
namespace Go.Proofs.Ytpjcbmlkldkimaa.leaseNever
open Go.ChangeShapes Go.WideShapes Go.ChangeAt Go.RowKit
open Go.Proofs.Ytpjcbmlkldkimaa.Lease
set_option linter.unusedVariables false



/-- What the walk is told of a slice of integers that came in. -/
def IsRow (k : IntKind) (w : World) (a : Option Addr) (len cap : Nat) (zs : List Int) : Prop :=
  (a = none ∧ len = 0 ∧ cap = 0 ∧ zs = []) ∨
  ∃ x, a = some x ∧ len ≤ cap ∧ cap ≤ maxLen ∧ zs.length = cap ∧ (∀ i, i < zs.length → w.cell? (x.add i) = some (.int k (zs.getD i 0))) ∧ ∀ n ∈ zs, (Lit.int k n).wf = true

theorem addr_add (b off k : Nat) : (⟨b, off, none⟩ : Addr).add k = ⟨b, off + k, none⟩ := by
  unfold Addr.add
  split
  · simp_all
  · rfl

set_option maxRecDepth 100000 in
set_option maxHeartbeats 800000 in
theorem walk_zero (i s u0 : Int) (sure : Bool) (a : Option Addr) (cap : Nat) (w : World) (hs0 : 0 ≤ s) (hs1 : s ≤ 18446744073709551615) :
    Calls Try.prog 4 #[A i s u0 sure, .slice a 0 cap] w fun e w' => e = .returned (.bool true) ∧ Below w.heap.size w w' := by
  go_enter Try.func4, Try.ntmps4
  go_wp2
  go_loopw [5, 7] (fun m n wr => Rel w.heap.size 0 i s sure w m n wr) (fun _ n _ => 0 - (intOf n).toNat)
  case atStart => exact ⟨0, 0, by omega, rfl, rfl, by omega, by omega, fun _ => rfl, by unfold Lies; simp [World.cell?_alloc_past, World.cell?_alloc_new], by unfold Lies; simp [World.cell?_alloc_at], by unfold Free; simp [World.frozen?_alloc_at], by simp, ((Below.refl _ _).alloc (Nat.le_refl _) _).alloc (by simp) _⟩
  case round =>
    obtain ⟨k, u, hk, rfl, rfl, hu0, hu1, hun, hL0, hL1, hF1, hsz, hbel⟩ := hrel
    obtain ⟨a0, a1, a2, a3⟩ := hL0
    obtain ⟨c0, c1, c2, c3⟩ := hL1
    clear hF1
    cases sure
    · have h0 := hun rfl
      subst h0
      clear hun
      go_wp2_with fail
      go_region_held3 (fun w' => w'.cell? ⟨w.heap.size, 3, none⟩ = some (.bool false) ∧ w'.cell? ⟨w.heap.size + 1, 0, none⟩ = some (.int .u64 i) ∧ w'.cell? ⟨w.heap.size + 1, 1, none⟩ = some (.int .u64 s) ∧ w'.cell? ⟨w.heap.size + 1, 2, none⟩ = some (.int .u64 0) ∧ w'.cell? ⟨w.heap.size + 1, 3, none⟩ = some (.bool false))
        (go_keep)
        (first
          | (go_at_call 10; refine (left_any _ _ _ _ _ (by omega) (by omega)).mono ?_; rintro e w1 ⟨rfl, hb1⟩; obtain ⟨d0, d1, d2, d3, d4⟩ := keepE hb1 (B := w.heap.size) (i := i) (s := s) (u := 0) (sure := false) (by simp [*]) (by simp [*]) (by simp [*]) (by simp [*]) (by simp [*]))
          | (go_at_call 11; refine (left2_any _ _ _ _ _ (by omega) (by omega)).mono ?_; rintro e w2 ⟨rfl, hb2⟩; obtain ⟨d0, d1, d2, d3, d4⟩ := keepE hb2 (B := w.heap.size) (i := i) (s := s) (u := 0) (sure := false) (by simp [*]) (by simp [*]) (by simp [*]) (by simp [*]) (by simp [*]))
          | (go_at_call 8; refine (awake_any _).mono ?_; rintro e w3 ⟨rfl, hb3⟩; obtain ⟨d0, d1, d2, d3, d4⟩ := keepE hb3 (B := w.heap.size) (i := i) (s := s) (u := 0) (sure := false) (by simp [*]) (by simp [*]) (by simp [*]) (by simp [*]) (by simp [*])))
      go_wp2
      go_ret
      have y0 := hbel.size
      have y1 := hb1.size
      have y2 := hb2.size
      simp at y1
      exact ⟨rfl, ((hbel.trans ((undrew hb1).mono (by simp; omega))).trans (hb2.mono (by omega))).trans (hb3.mono (by omega))⟩
    · clear hun
      go_wp2_with fail
      first
        | (go_region_with (first
          | (go_at_call 10; refine (left_any _ _ _ _ _ (by omega) (by omega)).mono ?_; rintro e w1 ⟨rfl, hb1⟩; obtain ⟨d0, d1, d2, d3, d4⟩ := keepE hb1 (B := w.heap.size) (i := i) (s := s) (u := u) (sure := true) (by simp [*]) (by simp [*]) (by simp [*]) (by simp [*]) (by simp [*]))
          | (go_at_call 11; refine (left2_any _ _ _ _ _ (by omega) (by omega)).mono ?_; rintro e w2 ⟨rfl, hb2⟩)
          | (go_at_call 8; refine (awake_any _).mono ?_; rintro e w3 ⟨rfl, hb3⟩)))
        | fail
      all_goals
        go_wp2
        go_ret
        have y0 := hbel.size
        have y1 := hb1.size
        have y2 := hb2.size
        simp at y1
        exact ⟨rfl, ((hbel.trans ((undrew hb1).mono (by simp; omega))).trans (hb2.mono (by omega))).trans (hb3.mono (by omega))⟩

theorem walk (i s u0 : Int) (sure : Bool) (a1 : Option Addr) (len1 cap1 : Nat) (z1 : List Int) (w : World) (w0 : (Lit.int .u64 i).wf = true) (w1 : (Lit.int .u64 s).wf = true) (w2 : IsRow .i64 w a1 len1 cap1 z1) :
    Calls Try.prog 4 #[A i s u0 sure, .slice a1 len1 cap1] w fun e w' => e = .returned (.bool true) ∧ Below w.heap.size w w' := by
  obtain ⟨i0, i1⟩ := bounds_u64 w0
  obtain ⟨s0, s1⟩ := bounds_u64 w1
  by_cases hbig : 200 < len1
  · go_enter Try.func4, Try.ntmps4
    go_wp2_with fail
    refine (awake_any _).mono ?_
    rintro e w2 ⟨rfl, hb1⟩
    go_wp2
    go_ret
    exact ⟨rfl, ((Below.refl _ _).alloc (Nat.le_refl _) _).trans (hb1.mono (by simp))⟩
  · by_cases hz : len1 = 0
    · subst hz
      exact walk_zero i s u0 sure a1 cap1 w s0 s1
    · rcases w2 with ⟨rfl, h0, _⟩ | ⟨⟨b, off, spot⟩, rfl, hl, hm, hzl, hcell, hwf⟩
      · omega
      · have hc0 := hcell 0 (by omega)
        have hspot : spot = none := by simpa [Addr.add] using World.cell?_spot hc0
        subst hspot
        have hbl : b < w.heap.size := by have := World.block_lt_of_cell? _ _ hc0; simpa [Addr.add] using this
        refine walk_more i s u0 sure b off len1 cap1 w i0 s0 s1 (by omega) hbl fun k hk => ⟨z1.getD k 0, by rw [← addr_add]; exact hcell k (by omega), ?_⟩
        have hk' : k < z1.length := by omega
        have := hwf (z1.getD k 0) (by rw [List.getD_eq_getElem?_getD, List.getElem?_eq_getElem hk']; exact List.getElem_mem hk')
        exact bounds_i64 this

theorem own : ownKnob Try.prog.godebug = none := by kernel_rfl
theorem laidOut : laidOutB Try.prog = true := by kernel_rfl
theorem cells35 : Try.prog.cellsOf 35 = 4 := by kernel_rfl

set_option maxRecDepth 100000 in
theorem lifted (os : Os) (started : os.Started) (H : Type) (enc : TypeId × Value → H) :
    ReturnsInHanded {} Try.checked os 4 .any (Rows.leaseNeverSpec.pre6 enc Try.prog Try.f4 Rows.leaseNeverRow.domain false) (Rows.leaseNeverSpec.post enc Try.prog Try.f4 false true false false) := by
  refine returnsInHanded_of_change (C := Try.checked) own started (by kernel_rfl) Try.func4
    (ChangeSpec.witness6 (enc := enc) (C := Try.checked) false ⟨#[], #[.agg #[.int .u64 0, .int .u64 0, .int .u64 0, .bool false], .slice none 0 0], []⟩ 8 (by kernel_rfl) (by kernel_rfl) (by kernel_rfl) (by kernel_rfl)) ?_
  intro W base args ds gs before hval0 hW hcnd _
  have hval : ∀ (j : Nat) t v, Try.f4.params[j]? = some t → args[j]? = some v → Value.okWide Try.prog W .any base t v := hval0
  have hW' := hW
  obtain ⟨p, q, hA0, hV, rfl, hfz, hnd⟩ := hW
  have hA : DataW.TrodAll enc Try.prog W 0 (fun _ => true) true Try.f4.params.toList args.toList ds p := hA0
  rw [Try.params4] at hA hval
  obtain ⟨v0, vs0, d0, ds0, p0, q0, hargs, rfl, rfl, h0, r0⟩ := trodAll_cons hA
  obtain ⟨v1, vs1, d1, ds1, p1, q1, rfl, rfl, rfl, h1, r1⟩ := trodAll_cons r0
  obtain ⟨rfl, rfl, rfl⟩ := trodAll_nil r1
  obtain rfl : args = #[v0, v1] := by cases args; simp_all
  obtain ⟨rfl, rfl⟩ := trodVars_none hV
  have k0 := h0
  have lt0 : ∀ x ∈ p0, x.block < W.heap.size := by obtain ⟨m, hm⟩ := k0; exact DataW.trod_lt m _ _ _ hm
  have k1 := h1
  have lt1 : ∀ x ∈ p1, x.block < W.heap.size := by obtain ⟨m, hm⟩ := k1; exact DataW.trod_lt m _ _ _ hm
  obtain ⟨i, s, u, b, wi, ws, rfl⟩ : ∃ (i s u : Int) (b : Bool), (Lit.int .u64 i).wf = true ∧ (Lit.int .u64 s).wf = true ∧ v0 = A i s u b := by
    obtain ⟨c0, c1, c2, c3, y0, y1, y2, y3, m, rfl, _, _, hy0, hy1, hy2, hy3⟩ := Go.Joins.open_agg4 Try.underlying35 (by kernel_rfl) cells35 (hval 0 35 v0 rfl rfl) h0
    obtain ⟨i, e0, _, wi⟩ := DataW.trod_int Try.underlying33 hy0
    obtain ⟨s, e1, _, ws⟩ := DataW.trod_int Try.underlying33 hy1
    obtain ⟨u, e2, _, wu⟩ := DataW.trod_int Try.underlying33 hy2
    obtain ⟨b, e3, _⟩ := DataW.trod_bool Try.underlying4 hy3
    simp at e0 e1 e2 e3
    subst e0 e1 e2 e3
    exact ⟨i, s, u, b, wi, ws, rfl⟩
  obtain ⟨a1, len1, cap1, rfl⟩ := okWide_slice Try.underlying36 (hval 1 36 v1 rfl rfl)
  obtain ⟨z1, w1⟩ : ∃ zs, IsRow .i64 W a1 len1 cap1 zs := by
    obtain ⟨fuel, hf⟩ := h1
    rcases open_ints Try.underlying36 Try.underlying3 (by kernel_rfl) hf with ⟨hcs, _⟩ | ⟨x, l, c, zs, hcs, _, hl, hm, hz, _, hcell, hwz⟩
    · simp [Value.cells] at hcs
      obtain ⟨rfl, rfl, rfl⟩ := hcs
      exact ⟨[], .inl ⟨rfl, rfl, rfl, rfl⟩⟩
    · simp [Value.cells] at hcs
      obtain ⟨rfl, rfl, rfl⟩ := hcs
      exact ⟨zs, .inr ⟨_, rfl, hl, hm, by simpa using hz, hcell, hwz⟩⟩
  clear hA0 hval0
  refine (walk i s u b a1 len1 cap1 z1 W wi ws w1).mono fun e W' ⟨he, bel⟩ => ?_
  subst he
  exact ⟨_, rfl, _, _, _, [], _, [], hW', trodAll_mk1 (shut_bool Try.underlying4 _), (trodAll_cons_mk (Below.trod laidOut (by kernel_rfl) (of_decide_eq_true (by kernel_rfl)) k0 bel lt0) (trodAll_cons_mk (Below.trod laidOut (by kernel_rfl) (of_decide_eq_true (by kernel_rfl)) k1 bel lt1) trodAll_mk0)), rfl, bel.frame _, fun h => by cases h⟩

theorem over : Rows.leaseNeverRow.holds Try.pinned (OpenSpec.ofChange Rows.leaseNeverSpec) :=
  OpenClaim.holds_of_wide 4 Try.f4 rfl rfl rfl rfl rfl rfl rfl ⟨rfl, rfl, rfl, rfl, rfl⟩ rfl rfl rfl rfl rfl (by kernel_rfl) Try.func4 (by kernel_rfl)
    (of_decide_eq_true (by kernel_rfl)) (by unfold Func.isWrapper; first | (rw [if_pos (by decide +kernel)]; kernel_rfl) | (rw [if_neg (by decide +kernel)]; exact ⟨rfl, rfl⟩))
    (fun os started H enc _ => lifted os started H enc)

theorem proved : Rows.LeaseNeverSaid := over
#print axioms proved
end Go.Proofs.Ytpjcbmlkldkimaa.leaseNever
