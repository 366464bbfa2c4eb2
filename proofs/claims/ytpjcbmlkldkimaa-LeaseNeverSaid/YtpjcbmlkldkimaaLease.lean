/- Contracts of lease.Left, Spent, Grant, Draw, of the law's left and awake: each returns what is written, for every allowance and number in the stated range, and changes nothing that was there. -/
import Derived.Test.YtpjcbmlkldkimaaRows
import Derived.WalkKit
import Derived.ProofKit
import Derived.OpenShut
import Derived.Below
import Derived.WalkLawsBesides
import Derived.WalkSpells
import Derived.Lib.Hide
import Derived.Outline
import Derived.Laws.StructEq
namespace Go.Proofs.Ytpjcbmlkldkimaa.Lease
open Go.RowKit
set_option linter.unusedVariables false

/-- An allowance as a value. -/
abbrev A (i s u : Int) (b : Bool) : Value := .agg #[.int .u64 i, .int .u64 s, .int .u64 u, .bool b]

/-- What may be drawn. -/
def left (s u : Int) (b : Bool) : Int := if b = true ∧ u < s then s - u else 0
/-- What is drawn. -/
def drawn (s u : Int) (b : Bool) (n : Int) : Int := if n < 1 then 0 else min n (left s u b)

theorem bcell {W w1 : World} (hb : Below W.heap.size W w1) : (∀ b o, b < W.heap.size → w1.cell? ⟨b, o, none⟩ = W.cell? ⟨b, o, none⟩) ∧ (∀ b o, b < W.heap.size → w1.frozen? ⟨b, o, none⟩ = W.frozen? ⟨b, o, none⟩) :=
  ⟨fun b o h => hb.cell (p := ⟨b, o, none⟩) h, fun b o h => hb.frozen (p := ⟨b, o, none⟩) h⟩

theorem cell_set_off (W : World) (b i j : Nat) (v : Value) (h : i ≠ j) : (W.setCell ⟨b, i, none⟩ v).cell? ⟨b, j, none⟩ = W.cell? ⟨b, j, none⟩ := World.cell?_setCell_other _ _ _ _ (fun e => h (congrArg Addr.off e))

theorem two_boxes {w w1 : World} {a0 a1 a2 a3 b0 b1 b2 b3 : Value} {t1 t2 : TypeId} (hb : Below ((w.alloc (.cells #[a0, a1, a2, a3] t1)).alloc (.cells #[b0, b1, b2, b3] t2)).heap.size ((w.alloc (.cells #[a0, a1, a2, a3] t1)).alloc (.cells #[b0, b1, b2, b3] t2)) w1) :
    w1.cell? ⟨w.heap.size, 0, none⟩ = some a0 ∧ w1.cell? ⟨w.heap.size, 1, none⟩ = some a1 ∧ w1.cell? ⟨w.heap.size, 2, none⟩ = some a2 ∧ w1.cell? ⟨w.heap.size, 3, none⟩ = some a3 ∧ w1.cell? ⟨w.heap.size + 1, 0, none⟩ = some b0 ∧ w1.cell? ⟨w.heap.size + 1, 1, none⟩ = some b1 ∧ w1.cell? ⟨w.heap.size + 1, 2, none⟩ = some b2 ∧ w1.cell? ⟨w.heap.size + 1, 3, none⟩ = some b3 ∧ w1.frozen? ⟨w.heap.size, 0, none⟩ = false ∧ w1.frozen? ⟨w.heap.size, 1, none⟩ = false ∧ w1.frozen? ⟨w.heap.size, 2, none⟩ = false ∧ w1.frozen? ⟨w.heap.size, 3, none⟩ = false ∧ w1.frozen? ⟨w.heap.size + 1, 0, none⟩ = false ∧ w1.frozen? ⟨w.heap.size + 1, 1, none⟩ = false ∧ w1.frozen? ⟨w.heap.size + 1, 2, none⟩ = false ∧ w1.frozen? ⟨w.heap.size + 1, 3, none⟩ = false ∧ w.heap.size + 1 < w1.heap.size := by
  obtain ⟨k1, k2⟩ := bcell hb
  have hs := hb.size
  simp at hs k1 k2
  exact ⟨(k1 _ 0 (by omega)).trans ((World.cell?_alloc_past _ _ _ (by simp)).trans (World.cell?_alloc_at _ _ _ _ rfl)),
    (k1 _ 1 (by omega)).trans ((World.cell?_alloc_past _ _ _ (by simp)).trans (World.cell?_alloc_at _ _ _ _ rfl)),
    (k1 _ 2 (by omega)).trans ((World.cell?_alloc_past _ _ _ (by simp)).trans (World.cell?_alloc_at _ _ _ _ rfl)),
    (k1 _ 3 (by omega)).trans ((World.cell?_alloc_past _ _ _ (by simp)).trans (World.cell?_alloc_at _ _ _ _ rfl)),
    (k1 _ 0 (by omega)).trans (World.cell?_alloc_at _ _ _ _ (by simp)),
    (k1 _ 1 (by omega)).trans (World.cell?_alloc_at _ _ _ _ (by simp)),
    (k1 _ 2 (by omega)).trans (World.cell?_alloc_at _ _ _ _ (by simp)),
    (k1 _ 3 (by omega)).trans (World.cell?_alloc_at _ _ _ _ (by simp)),
    (k2 _ 0 (by omega)).trans ((World.frozen?_alloc_past _ _ _ (by simp)).trans (World.frozen?_alloc_at _ _ _ _ rfl)),
    (k2 _ 1 (by omega)).trans ((World.frozen?_alloc_past _ _ _ (by simp)).trans (World.frozen?_alloc_at _ _ _ _ rfl)),
    (k2 _ 2 (by omega)).trans ((World.frozen?_alloc_past _ _ _ (by simp)).trans (World.frozen?_alloc_at _ _ _ _ rfl)),
    (k2 _ 3 (by omega)).trans ((World.frozen?_alloc_past _ _ _ (by simp)).trans (World.frozen?_alloc_at _ _ _ _ rfl)),
    (k2 _ 0 (by omega)).trans (World.frozen?_alloc_at _ _ _ _ (by simp)),
    (k2 _ 1 (by omega)).trans (World.frozen?_alloc_at _ _ _ _ (by simp)),
    (k2 _ 2 (by omega)).trans (World.frozen?_alloc_at _ _ _ _ (by simp)),
    (k2 _ 3 (by omega)).trans (World.frozen?_alloc_at _ _ _ _ (by simp)),
    by omega⟩

theorem spent_any (i s u : Int) (b : Bool) (w : World) : Calls Try.prog 13 #[A i s u b] w fun e w' => e = .returned (.bool (decide (s ≤ u))) ∧ Below w.heap.size w w' := by
  go_enter Try.func13, Try.ntmps13
  go_wp2
  go_ret
  exact ⟨rfl, (Below.refl _ _).alloc (Nat.le_refl _) _⟩

theorem grant_any (n : Int) (w : World) : Calls Try.prog 14 #[.int .u64 n] w fun e w' => e = .returned (.int .u64 (min n 24)) ∧ w = w' := by
  by_cases h : n ≤ 24
  · rw [show min n 24 = n by omega]
    go_enter Try.func14, Try.ntmps14
    go_wp2
    go_ret
    exact ⟨rfl, rfl⟩
  · rw [show min n 24 = 24 by omega]
    go_enter Try.func14, Try.ntmps14
    go_wp2
    go_ret
    exact ⟨rfl, rfl⟩

theorem left_any (i s u : Int) (b : Bool) (w : World) (h0 : 0 ≤ u) (h1 : s ≤ 18446744073709551615) : Calls Try.prog 10 #[A i s u b] w fun e w' => e = .returned (.int .u64 (left s u b)) ∧ Below w.heap.size w w' := by
  cases b
  · rw [show left s u false = 0 by simp [left]]
    go_enter Try.func10, Try.ntmps10
    go_wp2
    go_ret
    exact ⟨rfl, (Below.refl _ _).alloc (Nat.le_refl _) _⟩
  · by_cases h : u < s
    · rw [show left s u true = s - u by simp [left, h]]
      have h2 : decide (s ≤ u) = false := by simp; omega
      go_enter Try.func10, Try.ntmps10
      go_wp2
      go_ret
      exact ⟨rfl, ((Below.refl _ _).alloc (Nat.le_refl _) _).alloc (by simp) _⟩
    · rw [show left s u true = 0 by simp [left, h]]
      have h2 : decide (s ≤ u) = true := by simp; omega
      go_enter Try.func10, Try.ntmps10
      go_wp2
      go_ret
      exact ⟨rfl, ((Below.refl _ _).alloc (Nat.le_refl _) _).alloc (by simp) _⟩

theorem left2_any (i s u : Int) (b : Bool) (w : World) (h0 : 0 ≤ u) (h1 : s ≤ 18446744073709551615) : Calls Try.prog 11 #[A i s u b] w fun e w' => e = .returned (.int .u64 (left s u b)) ∧ Below w.heap.size w w' := by
  cases b
  · rw [show left s u false = 0 by simp [left]]
    go_enter Try.func11, Try.ntmps11
    go_wp2
    go_ret
    exact ⟨rfl, (Below.refl _ _).alloc (Nat.le_refl _) _⟩
  · by_cases h : u < s
    · rw [show left s u true = s - u by simp [left, h]]
      go_enter Try.func11, Try.ntmps11
      go_wp2
      go_ret
      exact ⟨rfl, (Below.refl _ _).alloc (Nat.le_refl _) _⟩
    · rw [show left s u true = 0 by simp [left, h]]
      go_enter Try.func11, Try.ntmps11
      go_wp2
      go_ret
      exact ⟨rfl, (Below.refl _ _).alloc (Nat.le_refl _) _⟩

theorem draw_zero (i s u : Int) (b : Bool) (n : Int) (w : World) (h : n < 1) : Calls Try.prog 9 #[A i s u b, .int .i64 n] w fun e w' => e = .returned (.tuple #[A i s u b, .int .i64 0]) ∧ Below w.heap.size w w' := by
  go_enter Try.func9, Try.ntmps9
  go_wp2
  exact bodyPost_ret (v := .tuple #[A i s u b, .int .i64 0]) (by simp [results, Try.results9, go_sem]) rfl ⟨rfl, ((Below.refl _ _).alloc (Nat.le_refl _) _).alloc (by simp) _⟩

theorem left_bd (s u : Int) (b : Bool) (h0 : 0 ≤ u) (hs : 0 ≤ s) (h1 : s ≤ 18446744073709551615) (hu : u ≤ 18446744073709551615) : 0 ≤ left s u b ∧ u + left s u b ≤ 18446744073709551615 ∧ left s u b ≤ 18446744073709551615 := by
  unfold left
  split <;> omega

theorem draw_more (i s u : Int) (b : Bool) (n : Int) (w : World) (h0 : 0 ≤ u) (hs : 0 ≤ s) (h1 : s ≤ 18446744073709551615) (hu : u ≤ 18446744073709551615) (hn : 1 ≤ n) (hn1 : n ≤ 9223372036854775807) :
    Calls Try.prog 9 #[A i s u b, .int .i64 n] w fun e w' => e = .returned (.tuple #[A i s (u + drawn s u b n) b, .int .i64 (drawn s u b n)]) ∧ Below w.heap.size w w' := by
  by_cases hz : i = 0 ∧ s = 0 ∧ u = 0 ∧ b = false
  · obtain ⟨rfl, rfl, rfl, rfl⟩ := hz
    have hd : drawn 0 0 false n = 0 := by unfold drawn left; simp; omega
    rw [hd, show (0 : Int) + 0 = 0 from rfl]
    clear hd
    go_enter Try.func9, Try.ntmps9
    go_wp2
    exact bodyPost_ret (v := .tuple #[A 0 0 0 false, .int .i64 0]) (by simp [results, Try.results9, go_sem]) rfl ⟨rfl, ((Below.refl _ _).alloc (Nat.le_refl _) _).alloc (by simp) _⟩
  · have hcase : (¬ i = 0) ∨ (i = 0 ∧ ¬ s = 0) ∨ (i = 0 ∧ s = 0 ∧ ¬ u = 0) ∨ (i = 0 ∧ s = 0 ∧ u = 0 ∧ b = true) := by
      by_cases a : i = 0 <;> by_cases b' : s = 0 <;> by_cases c : u = 0 <;> cases b <;> simp_all
    have hd : drawn s u b n = min n (left s u b) := by unfold drawn; rw [if_neg (by omega)]
    rw [hd]
    clear hd hz
    have hwr : IntKind.u64.wrap n = n := IntWalk.u64_in _ (by omega)
    have HW := Lib.hid hwr
    clear hwr
    obtain ⟨l0, l1, l2⟩ := left_bd s u b h0 hs h1 hu
    rcases hcase with h | ⟨rfl, h⟩ | ⟨rfl, rfl, h⟩ | ⟨rfl, rfl, rfl, rfl⟩
    all_goals
      go_enter Try.func9, Try.ntmps9
      go_wp2_with fail
      refine (left_any _ _ _ _ _ h0 h1).mono ?_
      rintro e w1 ⟨rfl, hb1⟩
      obtain ⟨c00, c01, c02, c03, c10, c11, c12, c13, f00, f01, f02, f03, f10, f11, f12, f13, hz1⟩ := two_boxes hb1
      have hso := cell_set_off
      go_wp2
      all_goals
        refine bodyPost_ret ?_ rfl ⟨rfl, ?_⟩
        · simp [results, Try.results9, go_sem, hso, c10, c11, c12, c13, hz1]
          have hwr := HW.out
          omega
        · exact ((((((((Below.refl _ _).alloc (Nat.le_refl _) _).alloc (by simp) _).trans (hb1.mono (by simp; omega))).setCell (by simp) _).setCell (by simp) _).setCell (by simp) _).setCell (by simp) _).alloc (by simp; omega) _

/-- What a draw gives, and leaves. -/
theorem draw_any (i s u : Int) (b : Bool) (n : Int) (w : World) (h0 : 0 ≤ u) (hs : 0 ≤ s) (h1 : s ≤ 18446744073709551615) (hu : u ≤ 18446744073709551615) (hn1 : n ≤ 9223372036854775807) :
    Calls Try.prog 9 #[A i s u b, .int .i64 n] w fun e w' => e = .returned (.tuple #[A i s (u + drawn s u b n) b, .int .i64 (drawn s u b n)]) ∧ Below w.heap.size w w' := by
  by_cases h : n < 1
  · have hd : drawn s u b n = 0 := by unfold drawn; rw [if_pos h]
    rw [hd, show u + 0 = u by omega]
    exact draw_zero i s u b n w h
  · exact draw_more i s u b n w h0 hs h1 hu (by omega) hn1

theorem drawn_bd (s u : Int) (b : Bool) (n : Int) (h : u ≤ s) : 0 ≤ drawn s u b n ∧ drawn s u b n ≤ s - u ∧ (0 ≤ n → drawn s u b n ≤ n) ∧ (b = false → drawn s u b n = 0) := by
  unfold drawn left
  cases b <;> simp <;> (repeat' split) <;> omega

theorem awake_any (w : World) : Calls Try.prog 8 #[] w fun e w' => e = .returned (.bool true) ∧ Below w.heap.size w w' := by
  have s1 : drawn 24 10 true 20 = 14 := by decide
  have S1 := Lib.hid s1
  clear s1
  go_enter Try.func8, Try.ntmps8
  go_wp2_with fail
  refine (draw_any 1 24 10 true 20 _ (by omega) (by omega) (by omega) (by omega) (by omega)).mono ?_
  rintro e w1 ⟨rfl, hb1⟩
  rw [S1.out]
  go_wp2
  go_ret
  have e1 := hb1.size
  exact ⟨rfl, ((hb1.alloc (by omega) _).alloc (by simp; omega) _)⟩
end Go.Proofs.Ytpjcbmlkldkimaa.Lease
