/- Contracts of credit.Window's Grant, Spend and Closed, and of the law's awake: each returns what is written, for every window and number in the stated range, and changes nothing that was there. -/
import Derived.Test.YtpjcbmlkldkimaaRows
import Derived.WalkKit
import Derived.ProofKit
import Derived.OpenShut
import Derived.Below
import Derived.WalkLawsBesides
import Derived.WalkSpells
import Derived.Lib.Hide
import Derived.Outline
namespace Go.Proofs.Ytpjcbmlkldkimaa.Credit
open Go.RowKit
set_option linter.unusedVariables false

theorem closed_any (c : Int) (w : World) : Calls Try.prog 12 #[.agg #[.int .i64 c]] w fun e w' => e = .returned (.bool (decide (c < 1))) ∧ Below w.heap.size w w' := by
  go_enter Try.func12, Try.ntmps12
  go_wp2
  go_ret
  exact ⟨rfl, (Below.refl _ _).alloc (Nat.le_refl _) _⟩

theorem grant_ok (c n : Int) (w : World) (hc : 0 ≤ c) (h1 : 1 ≤ n) (h2 : n ≤ 1048576) (h3 : c ≤ 1048576 - n) :
    Calls Try.prog 6 #[.agg #[.int .i64 c], .int .i64 n] w fun e w' => e = .returned (.tuple #[.agg #[.int .i64 (c + n)], .int .i64 0]) ∧ Below w.heap.size w w' := by
  go_enter Try.func6, Try.ntmps6
  go_wp2
  exact bodyPost_ret (v := .tuple #[.agg #[.int .i64 (c + n)], .int .i64 0]) (by simp [results, Try.results6, go_sem]) rfl ⟨rfl, ((Below.refl _ _).alloc (Nat.le_refl _) _).alloc (by simp) _⟩

theorem grant_no (c n : Int) (w : World) (hc : 0 ≤ c) (hn : 0 ≤ n) (hb : c ≤ 1048576) (h : n < 1 ∨ 1048576 < n ∨ 1048576 - n < c) :
    Calls Try.prog 6 #[.agg #[.int .i64 c], .int .i64 n] w fun e w' => e = .returned (.tuple #[.agg #[.int .i64 c], .int .i64 6]) ∧ Below w.heap.size w w' := by
  by_cases h1 : n < 1
  · clear h
    go_enter Try.func6, Try.ntmps6
    go_wp2
    exact bodyPost_ret (v := .tuple #[.agg #[.int .i64 c], .int .i64 6]) (by simp [results, Try.results6, go_sem]) rfl ⟨rfl, ((Below.refl _ _).alloc (Nat.le_refl _) _).alloc (by simp) _⟩
  · by_cases h2 : 1048576 < n
    · clear h
      go_enter Try.func6, Try.ntmps6
      go_wp2
      exact bodyPost_ret (v := .tuple #[.agg #[.int .i64 c], .int .i64 6]) (by simp [results, Try.results6, go_sem]) rfl ⟨rfl, ((Below.refl _ _).alloc (Nat.le_refl _) _).alloc (by simp) _⟩
    · have h3 : 1048576 - n < c := by omega
      clear h
      go_enter Try.func6, Try.ntmps6
      go_wp2
      exact bodyPost_ret (v := .tuple #[.agg #[.int .i64 c], .int .i64 6]) (by simp [results, Try.results6, go_sem]) rfl ⟨rfl, ((Below.refl _ _).alloc (Nat.le_refl _) _).alloc (by simp) _⟩

/-- How much is spent. -/
def spent (c n : Int) : Int := if n < 1 ∨ c < 1 then 0 else min n c

theorem spend_any (c n : Int) (w : World) (hc : 0 ≤ c) (hb : c ≤ 1048576) (hn : 0 ≤ n) :
    Calls Try.prog 7 #[.agg #[.int .i64 c], .int .i64 n] w fun e w' => e = .returned (.tuple #[.agg #[.int .i64 (c - spent c n)], .int .i64 (spent c n)]) ∧ Below w.heap.size w w' := by
  by_cases h1 : n < 1
  · have hs : spent c n = 0 := by simp [spent, h1]
    rw [hs, show c - 0 = c by omega]
    clear hs
    go_enter Try.func7, Try.ntmps7
    go_wp2
    exact bodyPost_ret (v := .tuple #[.agg #[.int .i64 c], .int .i64 0]) (by simp [results, Try.results7, go_sem]) rfl ⟨rfl, ((Below.refl _ _).alloc (Nat.le_refl _) _).alloc (by simp) _⟩
  · by_cases h2 : c < 1
    · have hs : spent c n = 0 := by simp [spent, h2]
      rw [hs, show c - 0 = c by omega]
      clear hs
      go_enter Try.func7, Try.ntmps7
      go_wp2
      exact bodyPost_ret (v := .tuple #[.agg #[.int .i64 c], .int .i64 0]) (by simp [results, Try.results7, go_sem]) rfl ⟨rfl, (((Below.refl _ _).alloc (Nat.le_refl _) _).alloc (by simp) _).alloc (by simp; omega) _⟩
    · by_cases h3 : n ≤ c
      · have hs : spent c n = n := by simp [spent, h1, h2]; omega
        rw [hs]
        clear hs
        go_enter Try.func7, Try.ntmps7
        go_wp2
        exact bodyPost_ret (v := .tuple #[.agg #[.int .i64 (c - n)], .int .i64 n]) (by simp [results, Try.results7, go_sem]) rfl ⟨rfl, (((Below.refl _ _).alloc (Nat.le_refl _) _).alloc (by simp) _).alloc (by simp; omega) _⟩
      · have hs : spent c n = c := by simp [spent, h1, h2]; omega
        rw [hs, show c - c = 0 by omega]
        clear hs
        go_enter Try.func7, Try.ntmps7
        go_wp2
        exact bodyPost_ret (v := .tuple #[.agg #[.int .i64 0], .int .i64 c]) (by simp [results, Try.results7, go_sem]) rfl ⟨rfl, (((Below.refl _ _).alloc (Nat.le_refl _) _).alloc (by simp) _).alloc (by simp; omega) _⟩

theorem bcell {W w1 : World} (hb : Below W.heap.size W w1) : (∀ b o, b < W.heap.size → w1.cell? ⟨b, o, none⟩ = W.cell? ⟨b, o, none⟩) ∧ (∀ b o, b < W.heap.size → w1.frozen? ⟨b, o, none⟩ = W.frozen? ⟨b, o, none⟩) :=
  ⟨fun b o h => hb.cell (p := ⟨b, o, none⟩) h, fun b o h => hb.frozen (p := ⟨b, o, none⟩) h⟩

theorem awake_any (w : World) : Calls Try.prog 5 #[] w fun e w' => e = .returned (.bool true) ∧ Below w.heap.size w w' := by
  have s1 : spent 5 3 = 3 := by decide
  have s2 : spent 2 4 = 2 := by decide
  have S1 := Lib.hid s1
  have S2 := Lib.hid s2
  clear s1 s2
  go_enter Try.func5, Try.ntmps5
  go_wp2_with fail
  refine (spend_any 5 3 _ (by omega) (by omega) (by omega)).mono ?_
  rintro e w1 ⟨rfl, hb1⟩
  rw [S1.out]
  obtain ⟨hc1, hf1⟩ := bcell hb1
  go_wp2_with fail
  refine (spend_any 2 4 _ (by omega) (by omega) (by omega)).mono ?_
  rintro e w2 ⟨rfl, hb2⟩
  rw [S2.out]
  obtain ⟨hc2, hf2⟩ := bcell hb2
  go_wp2
  go_ret
  have e1 := hb1.size
  have e2 := hb2.size
  simp at e1 e2
  exact ⟨rfl, (((hb1.alloc (by omega) _).trans (hb2.mono (by simp; omega))).alloc (by omega) _).alloc (by simp; omega) _⟩
end Go.Proofs.Ytpjcbmlkldkimaa.Credit
