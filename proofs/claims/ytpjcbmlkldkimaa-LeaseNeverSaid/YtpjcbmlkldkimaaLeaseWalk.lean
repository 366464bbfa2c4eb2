/- The walk of LeaseNever at a list that is not empty. -/
import Derived.Test.YtpjcbmlkldkimaaRows
import Derived.WalkKit
import Derived.ProofKit
import Derived.OpenShut
import Derived.ShutString
import Derived.ChangeOld
import Derived.Below
import Derived.Outline
import Derived.Lib.Hide
import Derived.Lib.SmallJoins
import Derived.Deep.RegionHeld3
import Derived.Deep.DrawnRows
import Derived.Deep.RegionWith
import Derived.Deep.DeepCutAuto
import Derived.Test.YtpjcbmlkldkimaaLease
namespace Go.Proofs.Ytpjcbmlkldkimaa.leaseNever
open Go.ChangeShapes Go.WideShapes Go.ChangeAt Go.RowKit
open Go.Proofs.Ytpjcbmlkldkimaa.Lease
set_option linter.unusedVariables false


/-- The four cells of an allowance. -/
def Lies (w : World) (B : Nat) (i s u : Int) (b : Bool) : Prop :=
  w.cell? ⟨B, 0, none⟩ = some (.int .u64 i) ∧ w.cell? ⟨B, 1, none⟩ = some (.int .u64 s) ∧ w.cell? ⟨B, 2, none⟩ = some (.int .u64 u) ∧ w.cell? ⟨B, 3, none⟩ = some (.bool b)
/-- None of them is frozen. -/
def Free (w : World) (B : Nat) : Prop :=
  w.frozen? ⟨B, 0, none⟩ = false ∧ w.frozen? ⟨B, 1, none⟩ = false ∧ w.frozen? ⟨B, 2, none⟩ = false ∧ w.frozen? ⟨B, 3, none⟩ = false

/-- What the loop keeps. -/
def Rel (B len : Nat) (i s : Int) (b : Bool) (w : World) (m n : Value) (wr : World) : Prop :=
  ∃ (k : Nat) (u : Int), k ≤ len ∧ n = .int .i64 k ∧ m = .int .u64 u ∧ 0 ≤ u ∧ u ≤ s ∧ (b = false → u = 0) ∧ Lies wr B i s 0 b ∧ Lies wr (B + 1) i s u b ∧ Free wr (B + 1) ∧ B + 1 < wr.heap.size ∧ Below B w wr

/-- What stands behind a draw. -/
def Mid (B : Nat) (i s u : Int) (b : Bool) (w : World) (p n : Value) (wx : World) : Prop :=
  ∃ (g : Nat) (d : Int), p = .pointer (some ⟨g, 0, none⟩) ∧ n = .int .i64 d ∧ 0 ≤ d ∧ d ≤ s - u ∧ d ≤ 9223372036854775807 ∧ (b = false → d = 0) ∧ Lies wx g i s (u + d) b ∧ Lies wx B i s 0 b ∧ Lies wx (B + 1) i s u b ∧ Free wx (B + 1) ∧ B + 1 < g ∧ B + 1 < wx.heap.size ∧ Below B w wx

theorem lies_lt {w : World} {B : Nat} {i s u : Int} {b : Bool} (h : Lies w B i s u b) : B < w.heap.size := World.block_lt_of_cell? _ _ h.1
theorem lies_below {W w1 : World} {B : Nat} {i s u : Int} {b : Bool} (hb : Below W.heap.size W w1) (h : Lies W B i s u b) : Lies w1 B i s u b :=
  ⟨(hb.cell (p := ⟨B, 0, none⟩) (lies_lt h)).trans h.1, (hb.cell (p := ⟨B, 1, none⟩) (lies_lt h)).trans h.2.1, (hb.cell (p := ⟨B, 2, none⟩) (lies_lt h)).trans h.2.2.1, (hb.cell (p := ⟨B, 3, none⟩) (lies_lt h)).trans h.2.2.2⟩
theorem free_below {W w1 : World} {B : Nat} (hb : Below W.heap.size W w1) (hB : B < W.heap.size) (h : Free W B) : Free w1 B :=
  ⟨(hb.frozen (p := ⟨B, 0, none⟩) hB).trans h.1, (hb.frozen (p := ⟨B, 1, none⟩) hB).trans h.2.1, (hb.frozen (p := ⟨B, 2, none⟩) hB).trans h.2.2.1, (hb.frozen (p := ⟨B, 3, none⟩) hB).trans h.2.2.2⟩
theorem lies_alloc {w : World} {B : Nat} {i s u : Int} {b : Bool} {o : Obj} (h : Lies w B i s u b) : Lies (w.alloc o) B i s u b := lies_below ((Below.refl _ _).alloc (Nat.le_refl _) _) h
theorem free_alloc {w : World} {B : Nat} {o : Obj} (hB : B < w.heap.size) (h : Free w B) : Free (w.alloc o) B := free_below ((Below.refl _ _).alloc (Nat.le_refl _) _) hB h
theorem lies_new (w : World) (i s u : Int) (b : Bool) (t : TypeId) : Lies (w.alloc (.cells #[.int .u64 i, .int .u64 s, .int .u64 u, .bool b] t)) w.heap.size i s u b := by
  unfold Lies
  simp [World.cell?_alloc_new]
/-- Four stores. -/
abbrev set4 (W : World) (g : Nat) (i s u : Int) (b : Bool) : World := (((W.setCell ⟨g, 0, none⟩ (.int .u64 i)).setCell ⟨g, 1, none⟩ (.int .u64 s)).setCell ⟨g, 2, none⟩ (.int .u64 u)).setCell ⟨g, 3, none⟩ (.bool b)
theorem set_other (W : World) (p q : Addr) (v : Value) (h : p.block ≠ q.block ∨ p.off ≠ q.off) : (W.setCell p v).cell? q = W.cell? q :=
  World.cell?_setCell_other _ _ _ _ (by rintro rfl; simp at h)
theorem lies_set4_other {W : World} {g B : Nat} {i s u i' s' u' : Int} {b b' : Bool} (hne : g ≠ B) (h : Lies W B i s u b) : Lies (set4 W g i' s' u' b') B i s u b := by
  unfold Lies at h ⊢
  simp only [set_other _ _ _ _ (Or.inl hne : (⟨g, _, none⟩ : Addr).block ≠ (⟨B, _, none⟩ : Addr).block ∨ _)]
  exact h
theorem free_set4 {W : World} {g B : Nat} {i' s' u' : Int} {b' : Bool} (h : Free W B) : Free (set4 W g i' s' u' b') B := by
  unfold Free at h ⊢
  simpa using h
theorem lies_set4_same {W : World} {g : Nat} {i s u : Int} {b : Bool} (h : ∀ j, j < 4 → ∃ v, W.cell? ⟨g, j, none⟩ = some v) : Lies (set4 W g i s u b) g i s u b := by
  obtain ⟨v0, h0⟩ := h 0 (by omega)
  obtain ⟨v1, h1⟩ := h 1 (by omega)
  obtain ⟨v2, h2⟩ := h 2 (by omega)
  obtain ⟨v3, h3⟩ := h 3 (by omega)
  refine ⟨?_, ?_, ?_, ?_⟩
  · rw [set_other _ _ _ _ (by simp), set_other _ _ _ _ (by simp), set_other _ _ _ _ (by simp), World.cell?_setCell_same _ _ _ h0]
  · rw [set_other _ _ _ _ (by simp), set_other _ _ _ _ (by simp), World.cell?_setCell_same _ _ _ (u := v1) (by rw [set_other _ _ _ _ (by simp)]; exact h1)]
  · rw [set_other _ _ _ _ (by simp), World.cell?_setCell_same _ _ _ (u := v2) (by rw [set_other _ _ _ _ (by simp), set_other _ _ _ _ (by simp)]; exact h2)]
  · rw [World.cell?_setCell_same _ _ _ (u := v3) (by rw [set_other _ _ _ _ (by simp), set_other _ _ _ _ (by simp), set_other _ _ _ _ (by simp)]; exact h3)]
theorem lies_some {W : World} {g : Nat} {i s u : Int} {b : Bool} (h : Lies W g i s u b) : ∀ j, j < 4 → ∃ v, W.cell? ⟨g, j, none⟩ = some v := by
  intro j hj
  match j, hj with
  | 0, _ => exact ⟨_, h.1⟩
  | 1, _ => exact ⟨_, h.2.1⟩
  | 2, _ => exact ⟨_, h.2.2.1⟩
  | 3, _ => exact ⟨_, h.2.2.2⟩
theorem below_set4 {w W : World} {B g : Nat} {i s u : Int} {b : Bool} (h : Below B w W) (hg : B ≤ g) : Below B w (set4 W g i s u b) := (((h.setCell hg _).setCell hg _).setCell hg _).setCell hg _

theorem undrew {B : Nat} {w w1 : World} (h : Below B w.drew w1) : Below B w w1 := ⟨h.os, h.tape, h.output, h.size, h.block⟩
theorem drawn_le (s u : Int) (b : Bool) (x : Int) (h : x ≤ 9223372036854775807) : drawn s u b x ≤ 9223372036854775807 := by
  unfold drawn
  split <;> omega
theorem mid_b {B : Nat} {i s u x : Int} {b : Bool} {w wr w1 : World} {t : TypeId} (hd : drawn s u b x ≤ 9223372036854775807) (q : 0 ≤ drawn s u b x ∧ drawn s u b x ≤ s - u ∧ (0 ≤ x → drawn s u b x ≤ x) ∧ (b = false → drawn s u b x = 0)) (h0 : Lies wr B i s 0 b) (h1 : Lies wr (B + 1) i s u b) (hf : Free wr (B + 1)) (hb : Below B w wr) (hb1 : Below wr.heap.size wr w1) :
    Mid B i s u b w (.pointer (some ⟨w1.heap.size, 0, none⟩)) (.int .i64 (drawn s u b x)) (w1.alloc (.cells #[.int .u64 i, .int .u64 s, .int .u64 (u + drawn s u b x), .bool b] t)) := by
  have l1 := lies_lt h1
  have hz := hb1.size
  exact ⟨_, _, rfl, rfl, q.1, q.2.1, hd, q.2.2.2, lies_new _ _ _ _ _ _, lies_alloc (lies_below hb1 h0), lies_alloc (lies_below hb1 h1), free_alloc (by omega) (free_below hb1 l1 hf), by omega, by simp; omega, (hb.trans (hb1.mono (by omega))).alloc (by omega) _⟩
theorem mid_a {B : Nat} {i s u x : Int} {b : Bool} {w wr w1 : World} {t : TypeId} {v0 v1 v2 v3 : Value} (hd : drawn s u b x ≤ 9223372036854775807) (q : 0 ≤ drawn s u b x ∧ drawn s u b x ≤ s - u ∧ (0 ≤ x → drawn s u b x ≤ x) ∧ (b = false → drawn s u b x = 0)) (h0 : Lies wr B i s 0 b) (h1 : Lies wr (B + 1) i s u b) (hf : Free wr (B + 1)) (hb : Below B w wr) (hb1 : Below (wr.alloc (.cells #[v0, v1, v2, v3] t)).heap.size (wr.alloc (.cells #[v0, v1, v2, v3] t)) w1) :
    Mid B i s u b w (.pointer (some ⟨wr.heap.size, 0, none⟩)) (.int .i64 (drawn s u b x)) (set4 w1 wr.heap.size i s (u + drawn s u b x) b) := by
  have l1 := lies_lt h1
  have hz := hb1.size
  simp at hz
  have l2 : wr.heap.size < (wr.alloc (.cells #[v0, v1, v2, v3] t)).heap.size := by simp
  refine ⟨_, _, rfl, rfl, q.1, q.2.1, hd, q.2.2.2, lies_set4_same ?_, lies_set4_other (by omega) (lies_below hb1 (lies_alloc h0)), lies_set4_other (by omega) (lies_below hb1 (lies_alloc h1)), free_set4 (free_below hb1 (by simp; omega) (free_alloc l1 hf)), by omega, by simp; omega, below_set4 ((hb.alloc (by omega) _).trans (hb1.mono (by simp; omega))) (by omega)⟩
  intro j hj
  match j, hj with
  | 0, _ => exact ⟨v0, (hb1.cell (p := ⟨wr.heap.size, 0, none⟩) l2).trans (by simp [World.cell?_alloc_new])⟩
  | 1, _ => exact ⟨v1, (hb1.cell (p := ⟨wr.heap.size, 1, none⟩) l2).trans (by simp [World.cell?_alloc_new])⟩
  | 2, _ => exact ⟨v2, (hb1.cell (p := ⟨wr.heap.size, 2, none⟩) l2).trans (by simp [World.cell?_alloc_new])⟩
  | 3, _ => exact ⟨v3, (hb1.cell (p := ⟨wr.heap.size, 3, none⟩) l2).trans (by simp [World.cell?_alloc_new])⟩

theorem keep5 {W w1 : World} {B b o : Nat} {i s u x : Int} {sure : Bool} (hb1 : Below W.heap.size W w1) (h0 : W.cell? ⟨B, 0, none⟩ = some (.int .u64 i)) (h1 : W.cell? ⟨B, 1, none⟩ = some (.int .u64 s)) (h2 : W.cell? ⟨B, 2, none⟩ = some (.int .u64 u)) (h3 : W.cell? ⟨B, 3, none⟩ = some (.bool sure)) (hx : W.cell? ⟨b, o, none⟩ = some (.int .i64 x)) :
    w1.cell? ⟨B, 0, none⟩ = some (.int .u64 i) ∧ w1.cell? ⟨B, 1, none⟩ = some (.int .u64 s) ∧ w1.cell? ⟨B, 2, none⟩ = some (.int .u64 u) ∧ w1.cell? ⟨B, 3, none⟩ = some (.bool sure) ∧ w1.cell? ⟨b, o, none⟩ = some (.int .i64 x) ∧ B < w1.heap.size ∧ b < w1.heap.size := by
  have l0 := World.block_lt_of_cell? _ _ h0
  have l1 := World.block_lt_of_cell? _ _ hx
  have hz := hb1.size
  exact ⟨(hb1.cell l0).trans h0, (hb1.cell (p := ⟨B, 1, none⟩) l0).trans h1, (hb1.cell (p := ⟨B, 2, none⟩) l0).trans h2, (hb1.cell (p := ⟨B, 3, none⟩) l0).trans h3, (hb1.cell l1).trans hx, Nat.lt_of_lt_of_le l0 hz, Nat.lt_of_lt_of_le l1 hz⟩

theorem keepE {W w1 : World} {B : Nat} {i s u : Int} {sure : Bool} (hb1 : Below W.heap.size W w1) (h : W.cell? ⟨B, 3, none⟩ = some (.bool sure)) (h0 : W.cell? ⟨B + 1, 0, none⟩ = some (.int .u64 i)) (h1 : W.cell? ⟨B + 1, 1, none⟩ = some (.int .u64 s)) (h2 : W.cell? ⟨B + 1, 2, none⟩ = some (.int .u64 u)) (h3 : W.cell? ⟨B + 1, 3, none⟩ = some (.bool sure)) :
    w1.cell? ⟨B, 3, none⟩ = some (.bool sure) ∧ w1.cell? ⟨B + 1, 0, none⟩ = some (.int .u64 i) ∧ w1.cell? ⟨B + 1, 1, none⟩ = some (.int .u64 s) ∧ w1.cell? ⟨B + 1, 2, none⟩ = some (.int .u64 u) ∧ w1.cell? ⟨B + 1, 3, none⟩ = some (.bool sure) := by
  have l0 := World.block_lt_of_cell? _ _ h0
  have l := World.block_lt_of_cell? _ _ h
  exact ⟨(hb1.cell (p := ⟨B, 3, none⟩) l).trans h, (hb1.cell (p := ⟨B + 1, 0, none⟩) l0).trans h0, (hb1.cell (p := ⟨B + 1, 1, none⟩) l0).trans h1, (hb1.cell (p := ⟨B + 1, 2, none⟩) l0).trans h2, (hb1.cell (p := ⟨B + 1, 3, none⟩) l0).trans h3⟩

set_option maxRecDepth 100000 in
set_option maxHeartbeats 800000 in
theorem walk_more (i s u0 : Int) (sure : Bool) (b off len cap : Nat) (w : World) (hi : 0 ≤ i) (hs0 : 0 ≤ s) (hs1 : s ≤ 18446744073709551615) (hl : len ≤ 200) (hb : b < w.heap.size)
    (hrow : ∀ k, k < len → ∃ x : Int, w.cell? ⟨b, off + k, none⟩ = some (.int .i64 x) ∧ -9223372036854775808 ≤ x ∧ x ≤ 9223372036854775807) :
    Calls Try.prog 4 #[A i s u0 sure, .slice (some ⟨b, off, none⟩) len cap] w fun e w' => e = .returned (.bool true) ∧ Below w.heap.size w w' := by
  have HR := Lib.hid hrow
  clear hrow
  go_enter Try.func4, Try.ntmps4
  go_wp2
  go_loopw [5, 7] (fun m n wr => Rel w.heap.size len i s sure w m n wr) (fun _ n _ => len - (intOf n).toNat)
  case atStart => exact ⟨0, 0, by omega, rfl, rfl, by omega, by omega, fun _ => rfl, by unfold Lies; simp [World.cell?_alloc_past, World.cell?_alloc_new], by unfold Lies; simp [World.cell?_alloc_at], by unfold Free; simp [World.frozen?_alloc_at], by simp, ((Below.refl _ _).alloc (Nat.le_refl _) _).alloc (by simp) _⟩
  case round =>
    obtain ⟨k, u, hk, rfl, rfl, hu0, hu1, hun, hL0, hL1, hF1, hsz, hbel⟩ := hrel
    by_cases hlt : k < len
    · obtain ⟨x, hx, hx0, hx1⟩ := HR.out k hlt
      have hxr : wr.cell? ⟨b, off + k, none⟩ = some (.int .i64 x) := (hbel.cell (p := ⟨b, off + k, none⟩) hb).trans hx
      clear hx
      have hL0' := Lib.hid hL0
      have hL1' := Lib.hid hL1
      have hF1' := Lib.hid hF1
      have hd := drawn_le s u sure x hx1
      obtain ⟨a0, a1, a2, a3⟩ := hL0
      obtain ⟨c0, c1, c2, c3⟩ := hL1
      obtain ⟨f0, f1, f2, f3⟩ := hF1
      have hso := cell_set_off
      have n1 := World.new_ne wr ⟨w.heap.size + 1, 0, none⟩ c0
      have n2 := World.new_ne wr ⟨b, off + k, none⟩ hxr
      have hki : (0 : Int) ≤ (k : Int) := by omega
      have hkl : (k : Int) < (len : Int) := by omega
      have hbr : b < wr.heap.size := by have := hbel.size; omega
      have q := drawn_bd s u sure x hu1
      have Q := Lib.hid q
      clear q
      go_upto_region 9 with fail
      go_cut [8, 9] from 16 to 46 (fun p n wx => Mid w.heap.size i s u sure w p n wx)
      case first =>
        go_region_held3 (fun w' => w'.cell? ⟨w.heap.size + 1, 0, none⟩ = some (.int .u64 i) ∧ w'.cell? ⟨w.heap.size + 1, 1, none⟩ = some (.int .u64 s) ∧ w'.cell? ⟨w.heap.size + 1, 2, none⟩ = some (.int .u64 u) ∧ w'.cell? ⟨w.heap.size + 1, 3, none⟩ = some (.bool sure) ∧ w'.cell? ⟨b, off + k, none⟩ = some (.int .i64 x))
          (go_keep)
          (first | (go_at_call 9; refine (draw_any _ _ _ _ _ _ (by omega) (by omega) (by omega) (by omega) (by omega)).mono ?_; rintro e w1 ⟨rfl, hb1⟩; obtain ⟨d0, d1, d2, d3, d4, d5, d6⟩ := keep5 hb1 (B := w.heap.size + 1) (b := b) (o := off + k) (i := i) (s := s) (u := u) (sure := sure) (x := x) (by simp [*]) (by simp [*]) (by simp [*]) (by simp [*]) (by simp [*]); obtain ⟨hc1, hf1⟩ := bcell hb1; have hz1 := hb1.size))
        all_goals
          go_wp2_with fail
          go_meet
        · exact mid_b hd (drawn_bd s u sure x hu1) hL0'.out hL1'.out hF1'.out hbel (undrew hb1)
        · exact mid_a hd (drawn_bd s u sure x hu1) hL0'.out hL1'.out hF1'.out hbel (undrew hb1)
      case rest =>
        obtain ⟨g, d, rfl, rfl, d0, d1, d2, d3, hLg, hLa, hLb, hFb, hg, hszx, hbelx⟩ := hcut
        have HL := Lib.hid hLa
        have HB := Lib.hid hLb
        have HF := Lib.hid hFb
        have HG := Lib.hid d3
        have HU := Lib.hid hun
        clear d3 hun
        obtain ⟨g0, g1, g2, g3⟩ := hLg
        obtain ⟨a0, a1, a2, a3⟩ := hLa
        obtain ⟨c0, c1, c2, c3⟩ := hLb
        obtain ⟨f0, f1, f2, f3⟩ := hFb
        have hso := cell_set_off
        go_wp2
        go_roundw
        case rel => exact ⟨k + 1, u + d, by omega, by go_num, rfl, by omega, by omega, fun h => by have := HG.out h; have := HU.out h; omega, lies_set4_other (by omega) HL.out, lies_set4_same (lies_some HB.out), free_set4 HF.out, by simp; omega, below_set4 hbelx (by omega)⟩
        case measure => simp [intOf]; omega
    · obtain ⟨a0, a1, a2, a3⟩ := hL0
      obtain ⟨c0, c1, c2, c3⟩ := hL1
      clear hF1
      cases sure
      · have h0 := hun rfl
        subst h0
        clear hun
        go_wp2_with fail
        go_region_held3 (fun w' => w'.cell? ⟨w.heap.size, 3, none⟩ = some (.bool false) ∧ w'.cell? ⟨w.heap.size + 1, 0, none⟩ = some (.int .u64 i) ∧ w'.cell? ⟨w.heap.size + 1, 1, none⟩ = some (.int .u64 s) ∧ w'.cell? ⟨w.heap.size + 1, 2, none⟩ = some (.int .u64 0) ∧ w'.cell? ⟨w.heap.size + 1, 3, none⟩ = some (.bool false))
          (go_keep)
          (first
            | (go_at_call 10; refine (left_any _ _ _ _ _ (by omega) (by omega)).mono ?_; rintro e w1 ⟨rfl, hb1⟩; obtain ⟨d0, d1, d2, d3, d4⟩ := keepE hb1 (B := w.heap.size) (i := i) (s := s) (u := 0) (sure := false) (by simp [*]) (by simp [*]) (by simp [*]) (by simp [*]) (by simp [*]))
            | (go_at_call 11; refine (left2_any _ _ _ _ _ (by omega) (by omega)).mono ?_; rintro e w2 ⟨rfl, hb2⟩; obtain ⟨d0, d1, d2, d3, d4⟩ := keepE hb2 (B := w.heap.size) (i := i) (s := s) (u := 0) (sure := false) (by simp [*]) (by simp [*]) (by simp [*]) (by simp [*]) (by simp [*]))
            | (go_at_call 8; refine (awake_any _).mono ?_; rintro e w3 ⟨rfl, hb3⟩; obtain ⟨d0, d1, d2, d3, d4⟩ := keepE hb3 (B := w.heap.size) (i := i) (s := s) (u := 0) (sure := false) (by simp [*]) (by simp [*]) (by simp [*]) (by simp [*]) (by simp [*])))
        go_wp2
        go_ret
        have y0 := hbel.size
        have y1 := hb1.size
        have y2 := hb2.size
        simp at y1
        exact ⟨rfl, ((hbel.trans ((undrew hb1).mono (by simp; omega))).trans (hb2.mono (by omega))).trans (hb3.mono (by omega))⟩
      · clear hun
        go_wp2_with fail
        first
          | (go_region_with (first
            | (go_at_call 10; refine (left_any _ _ _ _ _ (by omega) (by omega)).mono ?_; rintro e w1 ⟨rfl, hb1⟩; obtain ⟨d0, d1, d2, d3, d4⟩ := keepE hb1 (B := w.heap.size) (i := i) (s := s) (u := u) (sure := true) (by simp [*]) (by simp [*]) (by simp [*]) (by simp [*]) (by simp [*]))
            | (go_at_call 11; refine (left2_any _ _ _ _ _ (by omega) (by omega)).mono ?_; rintro e w2 ⟨rfl, hb2⟩)
            | (go_at_call 8; refine (awake_any _).mono ?_; rintro e w3 ⟨rfl, hb3⟩)))
          | fail
        all_goals
          go_wp2
          go_ret
          have y0 := hbel.size
          have y1 := hb1.size
          have y2 := hb2.size
          simp at y1
          exact ⟨rfl, ((hbel.trans ((undrew hb1).mono (by simp; omega))).trans (hb2.mono (by omega))).trans (hb3.mono (by omega))⟩

end Go.Proofs.Ytpjcbmlkldkimaa.leaseNever
