/- Contracts of stream.New and of the methods of a stream that is there. -/
import Derived.Test.YtinabbdecmjcpaaStreamDo
import Derived.Test.YtinabbdecmjcpaaAppend
namespace Go.Proofs.Ytinabbdecmjcpaa.Stream
open Go.RowKit Go.Proofs.Ytinabbdecmjcpaa Go.Proofs.Ytinabbdecmjcpaa.Plain Go.Proofs.Ytinabbdecmjcpaa.Words Go.Proofs.Ytinabbdecmjcpaa.Named Go.Proofs.Ytinabbdecmjcpaa.Hex Go.Proofs.Ytinabbdecmjcpaa.Queue
open Go.Proofs.Ytinabbdecmjcpaa.queueDoes (len_is room_is came_is went_is)
set_option linter.unusedVariables false

theorem new_no (s : ByteArray) (w : World) (hs : s.size ≤ 1000000000000) (hn : namedB 24 markB smallB (L s) = false) : Calls Try.prog 33 #[.string s] w fun e w' => e = .returned (.tuple #[.pointer none, .int .i64 7]) ∧ Below w.heap.size w w' := by
  have h1 := Lib.hid (target_any s w hs)
  rw [hn] at h1
  clear hn
  go_enter Try.func33, Try.ntmps33
  go_wp2_with (go_at_call 60; refine h1.out.mono ?_; rintro e w1 ⟨rfl, hb1⟩)
  go_ret2
  exact ⟨rfl, hb1⟩

theorem new_ok (s : ByteArray) (w : World) (hs : s.size ≤ 1000000000000) (hn : namedB 24 markB smallB (L s) = true) : Calls Try.prog 33 #[.string s] w fun e w' =>
    ∃ x b0 b1, e = .returned (.tuple #[.pointer (some ⟨x, 0, none⟩), .int .i64 0]) ∧ SAt w' x b0 b1 s [] [] 0 0 0 0 64 false ∧ w.heap.size ≤ b0 ∧ w.heap.size ≤ b1 ∧ w.heap.size ≤ x ∧ Below w.heap.size w w' := by
  have h1 := Lib.hid (target_any s w hs)
  rw [hn] at h1
  clear hn
  go_enter Try.func33, Try.ntmps33
  go_wp2_with fail
  refine h1.out.mono ?_
  rintro e w1 ⟨rfl, hb1⟩
  go_wp2_with fail
  refine (new_any _).mono ?_
  rintro e w2 ⟨rfl, hq2, hb2⟩
  go_wp2_with fail
  refine (new_any _).mono ?_
  rintro e w3 ⟨rfl, hq3, hb3⟩
  have hq2' := hq2.below hb3
  have l2 := hq2.lt
  have l3 := hq3.lt
  have s1 := hb1.size
  have s2 := hb2.size
  have s3 := hb3.size
  have HQ2 := Lib.hid hq2'
  have HQ3 := Lib.hid hq3
  clear hq2 hq3 hq2'
  go_wp2
  go_ret2
  have bb : ∀ o, Below w3.heap.size w3 (w3.alloc o) := fun o => (Below.refl _ _).alloc (Nat.le_refl _) _
  refine ⟨w3.heap.size, w1.heap.size, w2.heap.size, rfl, ⟨World.cell?_alloc_at _ _ _ _ rfl, World.cell?_alloc_at _ _ _ _ rfl, World.cell?_alloc_at _ _ _ _ rfl, World.cell?_alloc_at _ _ _ _ rfl, World.cell?_alloc_at _ _ _ _ rfl, World.frozen?_alloc_at _ _ _ _ rfl, World.frozen?_alloc_at _ _ _ _ rfl, ⟨_, _, HQ2.out.below (bb _), rfl⟩, ⟨_, _, HQ3.out.below (bb _), rfl⟩, by omega, by omega, by omega, by omega, by omega⟩, by omega, by omega, by omega, ?_⟩
  exact ((hb1.trans (hb2.mono s1)).trans (hb3.mono (by omega))).alloc (by omega) _

section
variable {w w' : World} {s b0 b1 : Nat} {tgt : ByteArray} {up dn : List UInt8} {c0 g0 c1 g1 cr : Int} {en : Bool}
theorem target_at (h : SAt w s b0 b1 tgt up dn c0 g0 c1 g1 cr en) : Calls Try.prog 37 #[.pointer (some ⟨s, 0, none⟩)] w fun e w' => e = .returned (.string tgt) ∧ w = w' := by
  have h1 := h.k0
  clear h
  go_enter Try.func37, Try.ntmps37
  go_wp2
  go_ret
  exact ⟨rfl, rfl⟩
theorem size0 (h : SAt w s b0 b1 tgt up dn c0 g0 c1 g1 cr en) : Calls Try.prog 38 #[.pointer (some ⟨s, 0, none⟩), .int .i64 0] w fun e w' => e = .returned (.int .i64 ((min up.length 16 : Nat) : Int)) ∧ w = w' := by
  have h1 := h.k1
  have HQ := Lib.hid h.q0
  have hmf : ∀ (fn : Fn) (first cap : Array Value) (w : World), (Instr.makeFunc fn first cap).run Try.prog w = .ok (.func fn first cap) w := fun _ _ _ _ => rfl
  clear h
  by_cases hm : up.length ≤ 16
  · rw [Nat.min_eq_left hm]
    go_enter Try.func38, Try.ntmps38
    go_wp2_with (first | (go_at_call 64; go_in) | (go_at_call 25; refine (len_is HQ.out).mono ?_; rintro e w' ⟨rfl, rfl⟩))
    go_ret
    exact ⟨rfl, rfl⟩
  · rw [Nat.min_eq_right (by omega)]
    go_enter Try.func38, Try.ntmps38
    go_wp2_with (first | (go_at_call 64; go_in) | (go_at_call 25; refine (len_is HQ.out).mono ?_; rintro e w' ⟨rfl, rfl⟩))
    go_ret
    exact ⟨rfl, rfl⟩
theorem size1 (h : SAt w s b0 b1 tgt up dn c0 g0 c1 g1 cr en) : Calls Try.prog 38 #[.pointer (some ⟨s, 0, none⟩), .int .i64 1] w fun e w' => e = .returned (.int .i64 ((min (min dn.length 16) cr.toNat : Nat) : Int)) ∧ w = w' := by
  have h1 := h.k2
  have h3 := h.k3
  have h0 := h.cr0
  have HQ := Lib.hid h.q1
  have hmf : ∀ (fn : Fn) (first cap : Array Value) (w : World), (Instr.makeFunc fn first cap).run Try.prog w = .ok (.func fn first cap) w := fun _ _ _ _ => rfl
  clear h
  obtain ⟨n, rfl⟩ : ∃ n : Nat, cr = n := ⟨cr.toNat, by omega⟩
  rw [Int.toNat_natCast]
  by_cases hm : dn.length ≤ 16
  · rw [Nat.min_eq_left hm]
    by_cases hn : dn.length ≤ n
    · rw [Nat.min_eq_left hn]
      go_enter Try.func38, Try.ntmps38
      go_wp2_with (first | (go_at_call 64; go_in) | (go_at_call 25; refine (len_is HQ.out).mono ?_; rintro e w' ⟨rfl, rfl⟩))
      go_ret
      exact ⟨rfl, rfl⟩
    · rw [Nat.min_eq_right (by omega)]
      go_enter Try.func38, Try.ntmps38
      go_wp2_with (first | (go_at_call 64; go_in) | (go_at_call 25; refine (len_is HQ.out).mono ?_; rintro e w' ⟨rfl, rfl⟩))
      go_ret
      exact ⟨rfl, rfl⟩
  · rw [Nat.min_eq_right (a := dn.length) (by omega)]
    by_cases hn : 16 ≤ n
    · rw [Nat.min_eq_left hn]
      go_enter Try.func38, Try.ntmps38
      go_wp2_with (first | (go_at_call 64; go_in) | (go_at_call 25; refine (len_is HQ.out).mono ?_; rintro e w' ⟨rfl, rfl⟩))
      go_ret
      exact ⟨rfl, rfl⟩
    · rw [Nat.min_eq_right (by omega)]
      go_enter Try.func38, Try.ntmps38
      go_wp2_with (first | (go_at_call 64; go_in) | (go_at_call 25; refine (len_is HQ.out).mono ?_; rintro e w' ⟨rfl, rfl⟩))
      go_ret
      exact ⟨rfl, rfl⟩
theorem done_no (h : SAt w s b0 b1 tgt up dn c0 g0 c1 g1 cr false) : Calls Try.prog 40 #[.pointer (some ⟨s, 0, none⟩)] w fun e w' => e = .returned (.bool false) ∧ w = w' := by
  have h1 := h.k4
  clear h
  go_enter Try.func40, Try.ntmps40
  go_wp2
  go_ret
  exact ⟨rfl, rfl⟩
theorem up_full (h : SAt w s b0 b1 tgt up dn c0 g0 c1 g1 cr en) (a : Option Addr) (len cap : Nat) (hf : 64 < up.length + len) : Calls Try.prog 58 #[.pointer (some ⟨s, 0, none⟩), .slice a len cap] w fun e w' => e = .returned (.int .i64 15) ∧ w = w' := by
  have h1 := h.k1
  have HQ := Lib.hid h.q0
  clear h
  go_enter Try.func58, Try.ntmps58
  go_wp2_with (go_at_call 52; refine (push_is_full HQ.out _ _ _ hf).mono ?_; rintro e w' ⟨rfl, rfl⟩)
  go_ret
  exact ⟨rfl, rfl⟩
theorem up_ok (h : SAt w s b0 b1 tgt up dn c0 g0 c1 g1 cr en) (l : List UInt8) (v : Value) (hv : BRow w v l) (ho : Off v b0) (hf : up.length + l.length ≤ 64) (hc0 : 0 ≤ c0) (hc1 : c0 ≤ 1000000000) : Calls Try.prog 58 #[.pointer (some ⟨s, 0, none⟩), v] w fun e w' =>
    e = .returned (.int .i64 0) ∧ SAt w' s b0 b1 tgt (up ++ l) dn (c0 + l.length) g0 c1 g1 cr en ∧ Chg [b0] w w' := by
  have h1 := h.k1
  have HS := Lib.hid h
  have HP := Lib.hid (push_is h.q0 l v hv ho hf hc0 hc1)
  clear h hv ho
  go_enter Try.func58, Try.ntmps58
  go_wp2_with (go_at_call 52; refine HP.out.mono ?_; rintro e w1 ⟨rfl, hq, hc⟩)
  go_ret
  exact ⟨rfl, HS.out.turn0 hc hq, hc⟩
theorem down_end (h : SAt w s b0 b1 tgt up dn c0 g0 c1 g1 cr true) (v : Value) : Calls Try.prog 61 #[.pointer (some ⟨s, 0, none⟩), v] w fun e w' => e = .returned (.int .i64 12) ∧ w = w' := by
  have h1 := h.k4
  clear h
  go_enter Try.func61, Try.ntmps61
  go_wp2
  go_ret
  exact ⟨rfl, rfl⟩
theorem down_full (h : SAt w s b0 b1 tgt up dn c0 g0 c1 g1 cr false) (a : Option Addr) (len cap : Nat) (hf : 64 < dn.length + len) : Calls Try.prog 61 #[.pointer (some ⟨s, 0, none⟩), .slice a len cap] w fun e w' => e = .returned (.int .i64 15) ∧ w = w' := by
  have h1 := h.k2
  have h2 := h.k4
  have HQ := Lib.hid h.q1
  clear h
  go_enter Try.func61, Try.ntmps61
  go_wp2_with (go_at_call 52; refine (push_is_full HQ.out _ _ _ hf).mono ?_; rintro e w' ⟨rfl, rfl⟩)
  go_ret
  exact ⟨rfl, rfl⟩
theorem down_ok (h : SAt w s b0 b1 tgt up dn c0 g0 c1 g1 cr false) (l : List UInt8) (v : Value) (hv : BRow w v l) (ho : Off v b1) (hf : dn.length + l.length ≤ 64) (hc0 : 0 ≤ c1) (hc1 : c1 ≤ 1000000000) : Calls Try.prog 61 #[.pointer (some ⟨s, 0, none⟩), v] w fun e w' =>
    e = .returned (.int .i64 0) ∧ SAt w' s b0 b1 tgt up (dn ++ l) c0 g0 (c1 + l.length) g1 cr false ∧ Chg [b1] w w' := by
  have h1 := h.k2
  have h2 := h.k4
  have HS := Lib.hid h
  have HP := Lib.hid (push_is h.q1 l v hv ho hf hc0 hc1)
  clear h hv ho
  go_enter Try.func61, Try.ntmps61
  go_wp2_with (go_at_call 52; refine HP.out.mono ?_; rintro e w1 ⟨rfl, hq, hc⟩)
  go_ret
  exact ⟨rfl, HS.out.turn1 hc hq, hc⟩
theorem end_no (h : SAt w s b0 b1 tgt up dn c0 g0 c1 g1 cr true) : Calls Try.prog 63 #[.pointer (some ⟨s, 0, none⟩)] w fun e w' => e = .returned (.int .i64 12) ∧ w = w' := by
  have h1 := h.k4
  clear h
  go_enter Try.func63, Try.ntmps63
  go_wp2
  go_ret
  exact ⟨rfl, rfl⟩
theorem end_ok (h : SAt w s b0 b1 tgt up dn c0 g0 c1 g1 cr false) : Calls Try.prog 63 #[.pointer (some ⟨s, 0, none⟩)] w fun e w' => e = .returned (.int .i64 0) ∧ SAt w' s b0 b1 tgt up dn c0 g0 c1 g1 cr true ∧ Chg [s] w w' := by
  have h1 := h.k4
  have h2 := h.f4
  have HS := Lib.hid h
  clear h
  go_enter Try.func63, Try.ntmps63
  go_wp2
  go_ret
  exact ⟨rfl, HS.out.setEn true, (Chg.refl _ _).setCell (by simp) _⟩
theorem grant_at_ok (h : SAt w s b0 b1 tgt up dn c0 g0 c1 g1 cr en) (n : Int) (h1 : 1 ≤ n) (h2 : n ≤ 1048576) (h3 : cr ≤ 1048576 - n) : Calls Try.prog 62 #[.pointer (some ⟨s, 0, none⟩), .int .i64 n] w fun e w' => e = .returned (.int .i64 0) ∧ SAt w' s b0 b1 tgt up dn c0 g0 c1 g1 (cr + n) en ∧ Chg [s] w w' := by
  have k3 := h.k3
  have kf := h.f3
  have hl := h.lt
  have HG := Lib.hid (grant_ok cr n w h.cr0 h1 h2 h3)
  have HS := Lib.hid h
  clear h
  go_enter Try.func62, Try.ntmps62
  go_wp2_with fail
  refine HG.out.mono ?_
  rintro e w1 ⟨rfl, hb⟩
  have k3' := (hb.cell (p := ⟨s, 3, none⟩) hl).trans k3
  have kf' := (hb.frozen (p := ⟨s, 3, none⟩) hl).trans kf
  have s1 := hb.size
  have hl1 : s < w1.heap.size := by omega
  have hne : s ≠ w1.heap.size := by omega
  go_wp2
  go_ret
  exact ⟨rfl, ((HS.out.below hb).setCr _ (by have := HS.out.cr0; omega) (by omega)).below ((Below.refl _ _).alloc (Nat.le_refl _) _), ((Chg.of_below (bs := [s]) hb).setCell (p := ⟨s, 3, none⟩) (by simp) _).alloc _⟩
theorem grant_at_no (h : SAt w s b0 b1 tgt up dn c0 g0 c1 g1 cr en) (n : Int) (hn : n < 1 ∨ 1048576 < n ∨ 1048576 - n < cr) : Calls Try.prog 62 #[.pointer (some ⟨s, 0, none⟩), .int .i64 n] w fun e w' => e = .returned (.int .i64 6) ∧ Below w.heap.size w w' := by
  have k3 := h.k3
  have HG := Lib.hid (grant_no cr n w h.cr0 h.cr1 hn)
  clear h hn
  go_enter Try.func62, Try.ntmps62
  go_wp2_with (go_at_call 81; refine HG.out.mono ?_; rintro e w1 ⟨rfl, hb⟩)
  go_ret
  exact ⟨rfl, hb.alloc hb.size _⟩
/-- Move up. -/
theorem move0 (h : SAt w s b0 b1 tgt up dn c0 g0 c1 g1 cr en) (n : Int) (hg0 : 0 ≤ g0) (hg1 : g0 ≤ 1000000000) : Calls Try.prog 59 #[.pointer (some ⟨s, 0, none⟩), .int .i64 0, .int .i64 n] w fun e w' => ∃ v, e = .returned v ∧ Bys w' w.heap.size v (up.take (took n (min up.length 16))) ∧
    SAt w' s b0 b1 tgt (up.drop (took n (min up.length 16))) dn c0 (g0 + (took n (min up.length 16) : Nat)) c1 g1 cr en ∧ Chg [b0] w w' := by
  have h1 := h.k1
  have HS := Lib.hid h
  have hmf : ∀ (fn : Fn) (first cap : Array Value) (w : World), (Instr.makeFunc fn first cap).run Try.prog w = .ok (.func fn first cap) w := fun _ _ _ _ => rfl
  have HZ := Lib.hid (size0 h)
  clear h
  have hz16 : min up.length 16 ≤ 16 := by omega
  have hzl : min up.length 16 ≤ up.length := by omega
  generalize hz : min up.length 16 = z at *
  by_cases hlow : n < 1 ∨ z < 1
  · have ht : took n z = 0 := by unfold took; omega
    rw [ht]
    clear ht
    by_cases hnz : (z : Int) ≤ n
    all_goals
      have hmin : (if (z : Int) ≤ n then (z : Int) else n) < 1 := by split <;> omega
      clear hlow
      go_enter Try.func59, Try.ntmps59
      go_wp2_with (go_at_call 38; refine HZ.out.mono ?_; rintro e w' ⟨rfl, rfl⟩)
      go_ret
      exact ⟨_, rfl, World.ownsRow_nil _ _ _ _, by simpa using HS.out, Chg.refl _ _⟩
  · obtain ⟨m, hm, hm1, hmz⟩ : ∃ m : Nat, took n z = m ∧ 1 ≤ m ∧ m ≤ z := ⟨_, rfl, by unfold took; omega, by unfold took; omega⟩
    have hmm : took (m : Int) up.length = m := by unfold took; omega
    have HP := Lib.hid (pop_is HS.out.q0 (m : Int) hg0 hg1)
    rw [hmm] at HP
    rw [hm]
    have hcase : ((z : Int) ≤ n ∧ m = z) ∨ (n < (z : Int) ∧ n = (m : Int)) := by unfold took at hm; omega
    clear hm hmm hlow
    rcases hcase with ⟨ha, rfl⟩ | ⟨ha, rfl⟩
    all_goals
      go_enter Try.func59, Try.ntmps59
      go_wp2_with (first | (go_at_call 38; refine HZ.out.mono ?_; rintro e w' ⟨rfl, rfl⟩) | (go_at_call 53; refine HP.out.mono ?_; rintro e w1 ⟨v, rfl, hby, hq, hc⟩))
      go_ret
      exact ⟨_, rfl, hby, HS.out.turn0 hc hq, hc⟩
/-- Move down. -/
theorem move1 (h : SAt w s b0 b1 tgt up dn c0 g0 c1 g1 cr en) (n : Int) (hg0 : 0 ≤ g1) (hg1 : g1 ≤ 1000000000) : Calls Try.prog 59 #[.pointer (some ⟨s, 0, none⟩), .int .i64 1, .int .i64 n] w fun e w' => ∃ v, e = .returned v ∧ Bys w' w.heap.size v (dn.take (took n (min (min dn.length 16) cr.toNat))) ∧
    SAt w' s b0 b1 tgt up (dn.drop (took n (min (min dn.length 16) cr.toNat))) c0 g0 c1 (g1 + (took n (min (min dn.length 16) cr.toNat) : Nat)) (cr - (took n (min (min dn.length 16) cr.toNat) : Nat)) en ∧ Chg [s, b1] w w' := by
  have h1 := h.k2
  have k3 := h.k3
  have f3 := h.f3
  have hl := h.lt
  have hne := h.ne1
  have hc0 := h.cr0
  have hc1 := h.cr1
  have HS := Lib.hid h
  have hmf : ∀ (fn : Fn) (first cap : Array Value) (w : World), (Instr.makeFunc fn first cap).run Try.prog w = .ok (.func fn first cap) w := fun _ _ _ _ => rfl
  have HZ := Lib.hid (size1 h)
  clear h
  have hz16 : min (min dn.length 16) cr.toNat ≤ 16 := by omega
  have hzl : min (min dn.length 16) cr.toNat ≤ dn.length := by omega
  have hzc : ((min (min dn.length 16) cr.toNat : Nat) : Int) ≤ cr := by omega
  generalize hz : min (min dn.length 16) cr.toNat = z at *
  by_cases hlow : n < 1 ∨ z < 1
  · have ht : took n z = 0 := by unfold took; omega
    rw [ht]
    clear ht
    by_cases hnz : (z : Int) ≤ n
    all_goals
      have hmin : (if (z : Int) ≤ n then (z : Int) else n) < 1 := by split <;> omega
      clear hlow
      go_enter Try.func59, Try.ntmps59
      go_wp2_with (go_at_call 38; refine HZ.out.mono ?_; rintro e w' ⟨rfl, rfl⟩)
      go_ret
      exact ⟨_, rfl, World.ownsRow_nil _ _ _ _, by simpa using HS.out, Chg.refl _ _⟩
  · obtain ⟨m, hm, hm1, hmz⟩ : ∃ m : Nat, took n z = m ∧ 1 ≤ m ∧ m ≤ z := ⟨_, rfl, by unfold took; omega, by unfold took; omega⟩
    have hmm : took (m : Int) dn.length = m := by unfold took; omega
    have HP := Lib.hid (pop_is HS.out.q1 (m : Int) hg0 hg1)
    rw [hmm] at HP
    rw [hm]
    have hcase : ((z : Int) ≤ n ∧ m = z) ∨ (n < (z : Int) ∧ n = (m : Int)) := by unfold took at hm; omega
    clear hm hmm hlow
    rcases hcase with ⟨ha, rfl⟩ | ⟨ha, rfl⟩
    all_goals
      go_enter Try.func59, Try.ntmps59
      go_wp2_with (first | (go_at_call 38; refine HZ.out.mono ?_; rintro e w' ⟨rfl, rfl⟩) | (go_at_call 53; refine HP.out.mono ?_; rintro e w1 ⟨v, rfl, hby, hq, hc⟩; have HC := Lib.hid hc; have HB := Lib.hid hby; have HQ := Lib.hid hq; have hs1 := hc.size; have a3 := (hc.cell (p := ⟨s, 3, none⟩) hl (by simpa using Ne.symm hne)).trans k3; have af := (hc.frozen (p := ⟨s, 3, none⟩) hl (by simpa using Ne.symm hne)).trans f3; clear hc hby hq) | (go_at_call 79; refine (spend_in cr _ _ hc1 (by omega) (by omega)).mono ?_; rintro e w2 ⟨rfl, hb2⟩; have H2 := Lib.hid hb2; have d3 := (hb2.cell (p := ⟨s, 3, none⟩) (Nat.lt_of_lt_of_le hl hs1)).trans a3; have df := (hb2.frozen (p := ⟨s, 3, none⟩) (Nat.lt_of_lt_of_le hl hs1)).trans af; clear hb2))
      go_ret
      refine ⟨_, rfl, ?_, (((HS.out.turn1 HC.out HQ.out).below H2.out).setCr _ (by omega) (by omega)), (((HC.out.mono (by simp)).trans (Chg.of_below H2.out)).setCell (p := ⟨s, 3, none⟩) (by simp) _)⟩
      exact ownsRow_set (Go.Proofs.Ytinabbdecmjcpaa.Queue.bys_chg HB.out (Chg.of_below (bs := []) H2.out) (by simp)) hl _
end
end Go.Proofs.Ytinabbdecmjcpaa.Stream
