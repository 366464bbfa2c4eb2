/- The lines of a text, plainly; and the contract of strings.Lines: each line is handed on, its end with it, as long as more are wanted. The contracts of strings.CutSuffix at the end of a line, and of strings.Lines itself. Scripts as texts, plainly: what a line does to what was read so far; the setup and the events of a text, or the line that errs. No program in sight. A range over the lines of a text: what the body of a round must keep, and what is known behind the loop. -/
import Derived.RangeFuncNested
import Derived.RangeFuncBound
import Derived.RangeFuncCalls
import Derived.RangeFuncLeaves
import Derived.Shelf.Abstract
import Derived.Shelf.RegionOpen
import Derived.WalkKit
import Derived.OwnWalkIn
import Derived.TacticsInMore
import Derived.LoopNIn
import Derived.LoopIn
import Derived.Lib.Bytealg
import Derived.Test.YtinabbdecmjcpaaGreatDoorG00
import Derived.Test.YtinabbdecmjcpaaGreatDoorG02
import Derived.Test.YtinabbdecmjcpaaGreatDoorGChg
namespace Go.Proofs.YtinabbdecmjcpaaGreatDoor.Script
open Go.RowKit Go.Shelf Go.Proofs.YtinabbdecmjcpaaGreatDoor.Plain Go.Proofs.YtinabbdecmjcpaaGreatDoor.Words
attribute [local go_sem] Oper.semAt_some
set_option linter.unusedVariables false

/-! ### Plainly -/
def lnAux : List UInt8 → List UInt8 → List (List UInt8)
  | cur, [] => if cur = [] then [] else [cur]
  | cur, c :: l => if c = 10 then (cur ++ [c]) :: lnAux [] l else lnAux (cur ++ [c]) l
/-- The lines of a text, each with its end. -/
def linesOf (l : List UInt8) : List (List UInt8) := lnAux [] l
theorem lnAux_app : ∀ (a l cur : List UInt8), 10 ∉ a → lnAux cur (a ++ l) = lnAux (cur ++ a) l
  | [], l, cur, _ => by simp
  | c :: a, l, cur, h => by
    simp only [List.mem_cons, not_or] at h
    rw [List.cons_append, lnAux, if_neg (fun e => h.1 e.symm), lnAux_app a l (cur ++ [c]) h.2]
    simp
theorem lines_cut (a r : List UInt8) (h : 10 ∉ a) : linesOf (a ++ 10 :: r) = (a ++ [10]) :: linesOf r := by
  unfold linesOf
  rw [lnAux_app a _ [] h, lnAux, if_pos rfl]
  simp
theorem lines_last (l : List UInt8) (h : 10 ∉ l) (hn : l ≠ []) : linesOf l = [l] := by
  unfold linesOf
  have := lnAux_app l [] [] h
  rw [List.append_nil] at this
  rw [this, lnAux, List.nil_append, if_neg hn]
theorem index_none : ∀ (l : List UInt8), 10 ∉ l → Lib.indexByte l 10 = -1
  | [], _ => rfl
  | c :: l, h => by
    simp only [List.mem_cons, not_or] at h
    unfold Lib.indexByte
    rw [if_neg (by simp; exact fun e => h.1 e.symm), index_none l h.2]
    rfl
theorem index_some : ∀ (l : List UInt8), 10 ∈ l → ∃ (i : Nat) (a r : List UInt8), Lib.indexByte l 10 = (i : Int) ∧ l = a ++ 10 :: r ∧ a.length = i ∧ 10 ∉ a
  | [], h => by simp at h
  | c :: l, h => by
    by_cases hc : c = 10
    · subst hc
      exact ⟨0, [], l, rfl, rfl, rfl, by simp⟩
    · have hl : 10 ∈ l := by
        rcases List.mem_cons.1 h with e | e
        · exact absurd e.symm hc
        · exact e
      obtain ⟨i, a, r, e1, e2, e3, e4⟩ := index_some l hl
      refine ⟨i + 1, c :: a, r, ?_, by rw [e2]; rfl, by simp [e3], by simp only [List.mem_cons, not_or]; exact ⟨fun e => hc e.symm, e4⟩⟩
      unfold Lib.indexByte
      rw [if_neg (by simpa using hc), e1, if_neg (by rw [beq_iff_eq]; omega)]
      omega
/-- The first line of a text that has an end, and the rest. -/
theorem cut_first (t : ByteArray) (h : 10 ∈ L t) : ∃ i : Nat, Lib.indexByte (L t) 10 = (i : Int) ∧ i + 1 ≤ t.size ∧ linesOf (L t) = L (t.extract 0 (i + 1)) :: linesOf (L (t.extract (i + 1) t.size)) ∧ (t.extract (i + 1) t.size).size < t.size := by
  obtain ⟨i, a, r, e1, e2, e3, e4⟩ := index_some (L t) h
  have hl : (L t).length = t.size := L_len t
  rw [e2] at hl
  simp at hl
  refine ⟨i, e1, by omega, ?_, by simp [ByteArray.size_extract]; omega⟩
  rw [extract_S, extract_S, show L (S (((L t).drop 0).take (i + 1 - 0))) = ((L t).drop 0).take (i + 1 - 0) from rfl, show L (S (((L t).drop (i + 1)).take (t.size - (i + 1)))) = ((L t).drop (i + 1)).take (t.size - (i + 1)) from rfl]
  rw [e2, lines_cut a r e4]
  have h1 : ((a ++ 10 :: r).drop 0).take (i + 1 - 0) = a ++ [10] := by
    rw [List.drop_zero, Nat.sub_zero, show a ++ 10 :: r = (a ++ [10]) ++ r by simp, List.take_left' (by simp [e3])]
  have h2 : ((a ++ 10 :: r).drop (i + 1)).take (t.size - (i + 1)) = r := by
    rw [show a ++ 10 :: r = (a ++ [10]) ++ r by simp, List.drop_left' (by simp [e3]), List.take_of_length_le (by omega)]
  rw [h1, h2]

theorem lnAux_len : ∀ (l cur : List UInt8), (∀ x ∈ lnAux cur l, x.length ≤ cur.length + l.length) ∧ (lnAux cur l).length ≤ cur.length + l.length
  | [], cur => by
    unfold lnAux
    split
    · simp
    · rename_i h
      have : 0 < cur.length := List.length_pos_iff.2 h
      refine ⟨fun x hx => ?_, ?_⟩
      · simp at hx; subst hx; simp
      · simp; omega
  | c :: l, cur => by
    unfold lnAux
    split
    · obtain ⟨h1, h2⟩ := lnAux_len l []
      refine ⟨fun x hx => ?_, ?_⟩
      · rcases List.mem_cons.1 hx with rfl | hx
        · (try simp) <;> (try omega)
        · have := h1 x hx; simp at this ⊢; omega
      · simp at h2 ⊢; omega
    · obtain ⟨h1, h2⟩ := lnAux_len l (cur ++ [c])
      refine ⟨fun x hx => ?_, ?_⟩
      · have := h1 x hx; simp at this ⊢; omega
      · simp at h2 ⊢; omega
theorem lines_len (l : List UInt8) : (∀ x ∈ linesOf l, x.length ≤ l.length) ∧ (linesOf l).length ≤ l.length := by
  have := lnAux_len l []
  simpa [linesOf] using this

/-! ### strings.IndexByte -/
set_option maxRecDepth 100000 in
set_option maxHeartbeats 1000000 in
theorem index99 (s : ByteArray) (w : World) : Calls Tryz.prog 64 #[.string s, .int .u8 10] w fun e w' => e = .returned (.int .i64 (Lib.indexByte (L s) 10)) ∧ w = w' := by
  go_enter Tryz.func64, Tryz.ntmps64
  go_wp2
  rw [run_callFunc_extern Tryz.func86 (by kernel_rfl) (by kernel_rfl) (by kernel_rfl) (e := Extern.BytealgIndexByte.indexByte) (by kernel_rfl), Lib.run_indexByteString]
  simp only [Result.andThen]
  rw [Oper.upon_value]
  go_wp2
  go_ret
  exact ⟨rfl, rfl⟩
theorem index89 (s : ByteArray) (w : World) : Calls Tryz.prog 44 #[.string s, .int .u8 10] w fun e w' => e = .returned (.int .i64 (Lib.indexByte (L s) 10)) ∧ w = w' := by
  have h := Lib.hid (index99 s w)
  generalize Lib.indexByte (L s) 10 = r at *
  go_enter Tryz.func44, Tryz.ntmps44
  go_wp2_with fail
  refine h.out.mono ?_
  rintro e w2 ⟨rfl, rfl⟩
  go_wp2
  go_ret
  exact ⟨rfl, rfl⟩

/-! ### strings.Lines -/
theorem no_depth {n : Nat} : Fence.wide.depth.isSome = true → 1 ≤ n := fun h => by simp [Fence.wide] at h
def restLen (B : Nat) (w : World) : Nat := match w.cell? ⟨B, 0, none⟩ with | some (.string t) => t.size | _ => 0
theorem restLen_of {B : Nat} {w : World} {t : ByteArray} (h : w.cell? ⟨B, 0, none⟩ = some (.string t)) : restLen B w = t.size := by unfold restLen; rw [h]
set_option maxRecDepth 100000 in
set_option maxHeartbeats 4000000 in
theorem lines1_in (n : Nat) (l B : Nat) (s : ByteArray) (J Jx : List ByteArray → World → Prop) (hJs : ∀ pre W v, J pre W → J pre (W.setCell ⟨B, 0, none⟩ v)) (hJd : ∀ pre W, J pre W → J pre W.drew)
    (hY : ∀ pre x W, J pre W → (pre ++ [x]).map L <+: linesOf (L s) → YieldAt Fence.wide (n - 1) Tryz.prog l #[.string x] W fun e W' =>
      (e = .returned (.bool true) ∧ J (pre ++ [x]) W' ∧ W'.cell? ⟨B, 0, none⟩ = W.cell? ⟨B, 0, none⟩ ∧ W'.frozen? ⟨B, 0, none⟩ = W.frozen? ⟨B, 0, none⟩) ∨ (e = .returned (.bool false) ∧ Jx (pre ++ [x]) W'))
    (W : World) (hs : s.size ≤ 1000000000000) (hB : W.cell? ⟨B, 0, none⟩ = some (.string s)) (hf : W.frozen? ⟨B, 0, none⟩ = false) (h0 : J [] W) :
    CallsIn Fence.wide n Tryz.prog 43 #[.func (.yield l) #[] #[], .pointer (some ⟨B, 0, none⟩)] W fun e W' => (∃ v, e = .returned v) ∧
      ((∃ pre, pre.map L = linesOf (L s) ∧ J pre W') ∨ (∃ pre, pre.map L <+: linesOf (L s) ∧ Jx pre W')) := by
  obtain ⟨R, hR⟩ : ∃ R, R = linesOf (L s) := ⟨_, rfl⟩
  rw [← hR]
  rw [← hR] at hY
  refine callsIn_of_wp Tryz.func43 rfl trivial ?_ rfl
  simp only [Tryz.ntmps43, List.size_toArray, List.length_cons, List.length_nil, Nat.reduceAdd, Nat.reduceSub, Array.replicate_succ, Array.replicate_zero, List.push_toArray, List.append_toArray, List.nil_append, List.cons_append]
  gi_wp2
  gi_loopw [] (fun wr => ∃ (pre : List ByteArray) (t : ByteArray), t.size ≤ s.size ∧ wr.cell? ⟨B, 0, none⟩ = some (.string t) ∧ wr.frozen? ⟨B, 0, none⟩ = false ∧ Hid (R = pre.map L ++ linesOf (L t)) ∧ J pre wr) (fun wr => restLen B wr)
  case atStart => exact ⟨[], s, Nat.le_refl _, hB, hf, Lib.hid (by rw [hR]; rfl), h0⟩
  case round =>
    obtain ⟨pre, t, ht, hc, hfr, hl, hJ⟩ := hrel
    have hm := restLen_of hc
    clear hB hf h0 hR
    by_cases hz : t.size = 0
    · have t1 : decide ((0 : Int) < (t.size : Int)) = false := decide_eq_false (by omega)
      have hL : linesOf (L t) = [] := by
        have : L t = [] := List.length_eq_zero_iff.1 (by rw [L_len]; exact hz)
        rw [this]; rfl
      gi_wp2
      go_end0
      exact ⟨⟨_, rfl⟩, .inl ⟨pre, by rw [hl.out, hL]; simp, hJ⟩⟩
    · have t1 : decide ((0 : Int) < (t.size : Int)) = true := decide_eq_true (by omega)
      by_cases h10 : 10 ∈ L t
      · obtain ⟨i, hi, hle, hlin, hsm⟩ := cut_first t h10
        have hI := Lib.hid (fun W => index89 t W)
        rw [hi] at hI
        have hl2 : R = (pre ++ [t.extract 0 (i + 1)]).map L ++ linesOf (L (t.extract (i + 1) t.size)) := by rw [hl.out, hlin]; simp
        have HL := Lib.hid hl2
        have HM := Lib.hid hsm
        have wi : IntKind.i64.wrap ((i : Int) + 1) = (i : Int) + 1 := IntWalk.i64_in _ (by omega)
        have w0 : (0 : Int) ≤ (i : Int) + 1 := by omega
        have w1 : (i : Int) + 1 ≤ (t.size : Int) := by omega
        clear hi hlin hsm hl hl2 h10
        have hJ2 := hJd pre _ (hJs pre wr (.string (t.extract (i + 1) t.size)) hJ)
        obtain ⟨fn, tmps, assign, body, hy, hR2⟩ := hY pre (t.extract 0 (i + 1)) _ hJ2 (by rw [HL.out]; exact List.prefix_append _ _)
        gi_wp2_with (refine ⟨trivial, no_depth, ?_⟩; refine (callsIn_wide.2 (hI.out _)).mono ?_; rintro e w2 ⟨rfl, rfl⟩)
        gi_region
        gi_wp2
        refine ⟨no_depth, hR2.mono ?_⟩
        rintro e W3 (⟨rfl, hJ3, hc3, hf3⟩ | ⟨rfl, hJx3⟩)
        · have hc4 : W3.cell? ⟨B, 0, none⟩ = some (.string (t.extract (i + 1) t.size)) := hc3.trans (World.cell?_setCell_same _ _ _ hc)
          have hf4 : W3.frozen? ⟨B, 0, none⟩ = false := hf3.trans (by simpa using hfr)
          clear hy hJ2 hJ hc3 hf3
          gi_wp2
          go_roundw
          case rel => exact ⟨pre ++ [t.extract 0 (i + 1)], _, by have := HM.out; omega, hc4, hf4, HL, hJ3⟩
          case measure => rw [restLen_of hc4, hm]; exact HM.out
        · gi_wp2
          refine bodyPost_ret (results_none rfl _ _ _) rfl ⟨⟨_, rfl⟩, .inr ⟨_, ?_, hJx3⟩⟩
          rw [HL.out]
          exact List.prefix_append _ _
      · have hI := Lib.hid (fun W => index89 t W)
        rw [index_none _ h10] at hI
        have hlin : linesOf (L t) = [L t] := lines_last _ h10 (fun e => hz (by rw [← L_len, e]; rfl))
        have hl2 : R = (pre ++ [t]).map L ++ linesOf [] := by rw [hl.out, hlin]; simp [linesOf, lnAux]
        have HL := Lib.hid hl2
        clear hlin hl hl2 h10
        have hJ2 := hJs pre wr (.string ⟨#[]⟩) hJ
        obtain ⟨fn, tmps, assign, body, hy, hR2⟩ := hY pre t _ hJ2 (by rw [HL.out]; exact List.prefix_append _ _)
        gi_wp2_with (refine ⟨trivial, no_depth, ?_⟩; refine (callsIn_wide.2 (hI.out _)).mono ?_; rintro e w2 ⟨rfl, rfl⟩)
        refine ⟨no_depth, hR2.mono ?_⟩
        rintro e W3 (⟨rfl, hJ3, hc3, hf3⟩ | ⟨rfl, hJx3⟩)
        · have hc4 : W3.cell? ⟨B, 0, none⟩ = some (.string ⟨#[]⟩) := hc3.trans (World.cell?_setCell_same _ _ _ hc)
          have hf4 : W3.frozen? ⟨B, 0, none⟩ = false := hf3.trans (by simpa using hfr)
          clear hy hJ2 hJ hc3 hf3
          gi_wp2
          go_roundw
          case rel => exact ⟨pre ++ [t], _, Nat.zero_le _, hc4, hf4, HL, hJ3⟩
          case measure => rw [restLen_of hc4, hm]; show (0 : Nat) < _; omega
        · gi_wp2
          refine bodyPost_ret (results_none rfl _ _ _) rfl ⟨⟨_, rfl⟩, .inr ⟨_, ?_, hJx3⟩⟩
          rw [HL.out]
          exact List.prefix_append _ _
end Go.Proofs.YtinabbdecmjcpaaGreatDoor.Script

namespace Go.Proofs.YtinabbdecmjcpaaGreatDoor.Script
open Go.RowKit Go.Proofs.YtinabbdecmjcpaaGreatDoor Go.Proofs.YtinabbdecmjcpaaGreatDoor.Plain Go.Proofs.YtinabbdecmjcpaaGreatDoor.Words
set_option linter.unusedVariables false

/-- Does a line have its end? -/
def ends (x : ByteArray) : Bool := decide (0 < x.size) && ((x.extract (x.size - 1) x.size).toList == [10])
theorem suffix100 (x : ByteArray) (w : World) (hs : x.size ≤ 1000000000000) : Calls Tryz.prog 65 #[.string x, .string ⟨#[10]⟩] w fun e w' => e = .returned (.bool (ends x)) ∧ w = w' := by
  by_cases h : 0 < x.size
  · have e1 : decide ((1 : Int) ≤ (x.size : Int)) = true := decide_eq_true (by omega)
    have e2 : IntKind.i64.wrap ((x.size : Int) - 1) = ((x.size - 1 : Nat) : Int) := by rw [IntWalk.i64_in _ (by omega)]; omega
    have e3 : x.size - 1 ≤ x.size := by omega
    have he : ends x = ((x.extract (x.size - 1) x.size).toList == [10]) := by unfold ends; rw [decide_eq_true h]; rfl
    rw [he]
    clear he
    go_enter Tryz.func65, Tryz.ntmps65
    go_wp2
    go_ret
    exact ⟨rfl, rfl⟩
  · have e1 : decide ((1 : Int) ≤ (x.size : Int)) = false := decide_eq_false (by omega)
    have he : ends x = false := by unfold ends; rw [decide_eq_false h]; rfl
    rw [he]
    clear he
    go_enter Tryz.func65, Tryz.ntmps65
    go_wp2
    go_ret
    exact ⟨rfl, rfl⟩
theorem cut90 (x : ByteArray) (w : World) (hs : x.size ≤ 1000000000000) : Calls Tryz.prog 45 #[.string x, .string ⟨#[10]⟩] w fun e w' => e = .returned (.tuple #[.string (if ends x = true then x.extract 0 (x.size - 1) else x), .bool (ends x)]) ∧ w = w' := by
  have h := Lib.hid (fun W => suffix100 x W hs)
  have hp : ends x = true → 0 < x.size := fun e => by
    unfold ends at e
    rw [Bool.and_eq_true] at e
    exact of_decide_eq_true e.1
  cases he : ends x with
  | false =>
    rw [he] at h
    clear hp
    go_enter Tryz.func45, Tryz.ntmps45
    go_wp2_with (go_at_call 65; refine (h.out _).mono ?_; rintro e w' ⟨rfl, rfl⟩)
    go_ret2
    exact ⟨rfl, rfl⟩
  | true =>
    rw [he] at h
    have h0 := hp he
    have e2 : IntKind.i64.wrap ((x.size : Int) - 1) = ((x.size - 1 : Nat) : Int) := by rw [IntWalk.i64_in _ (by omega)]; omega
    have e3 : x.size - 1 ≤ x.size := by omega
    clear hp he
    go_enter Tryz.func45, Tryz.ntmps45
    go_wp2_with (go_at_call 65; refine (h.out _).mono ?_; rintro e w' ⟨rfl, rfl⟩)
    go_ret2
    exact ⟨rfl, rfl⟩
theorem cut69 (x : ByteArray) (w : World) (hs : x.size ≤ 1000000000000) : Calls Tryz.prog 27 #[.string x, .string ⟨#[10]⟩] w fun e w' => e = .returned (.tuple #[.string (if ends x = true then x.extract 0 (x.size - 1) else x), .bool (ends x)]) ∧ w = w' := by
  have h := Lib.hid (fun W => cut90 x W hs)
  generalize (if ends x = true then x.extract 0 (x.size - 1) else x) = y at *
  generalize ends x = b at *
  go_enter Tryz.func27, Tryz.ntmps27
  go_wp2_with (go_at_call 45; refine (h.out _).mono ?_; rintro e w' ⟨rfl, rfl⟩)
  go_ret2
  exact ⟨rfl, rfl⟩
theorem lines68 (s : ByteArray) (w : World) : Calls Tryz.prog 26 #[.string s] w fun e w' => e = .returned (.func (.func 43) #[] #[.pointer (some ⟨w.heap.size, 0, none⟩)]) ∧ w.alloc (.cells #[.string s] 9) = w' := by
  go_enter Tryz.func26, Tryz.ntmps26
  go_wp2
  go_ret
  exact ⟨rfl, rfl⟩
/-- A line with its end. -/
theorem ends_iff (l : List UInt8) : ends (S (l ++ [10])) = true ∧ (S (l ++ [10])).extract 0 ((S (l ++ [10])).size - 1) = S l := by
  have hz : (S (l ++ [10])).size = l.length + 1 := by show (l ++ [10]).toArray.size = _; simp
  refine ⟨?_, ?_⟩
  · unfold ends
    rw [hz, decide_eq_true (by omega), extract_S, ByteArray.toList_eq]
    show (true && ((((l ++ [10]).drop (l.length + 1 - 1)).take (l.length + 1 - (l.length + 1 - 1))) == [10])) = true
    rw [Nat.add_sub_cancel, List.drop_left' rfl]
    simp
  · rw [hz, extract_S]
    show S (((l ++ [10]).drop 0).take (l.length + 1 - 1 - 0)) = S l
    rw [List.drop_zero, Nat.sub_zero, Nat.add_sub_cancel, List.take_left' rfl]
theorem ends_form (x : ByteArray) (h : ends x = true) : L x = L (x.extract 0 (x.size - 1)) ++ [10] := by
  unfold ends at h
  rw [Bool.and_eq_true, decide_eq_true_eq, beq_iff_eq] at h
  obtain ⟨h0, h1⟩ := h
  rw [extract_S, ByteArray.toList_eq] at h1
  have h2 : ((L x).drop (x.size - 1)).take (x.size - (x.size - 1)) = [10] := h1
  rw [List.take_of_length_le (by rw [List.length_drop, L_len]; omega)] at h2
  rw [extract_S]
  show L x = ((L x).drop 0).take (x.size - 1 - 0) ++ [10]
  rw [← h2, List.drop_zero, Nat.sub_zero, List.take_append_drop]
end Go.Proofs.YtinabbdecmjcpaaGreatDoor.Script

namespace Go.Proofs.YtinabbdecmjcpaaGreatDoor.Script
open Go.Proofs.YtinabbdecmjcpaaGreatDoor Go.Proofs.YtinabbdecmjcpaaGreatDoor.Plain Go.Proofs.YtinabbdecmjcpaaGreatDoor.Named Go.Proofs.YtinabbdecmjcpaaGreatDoor.Number Go.Proofs.YtinabbdecmjcpaaGreatDoor.Ev
open Go.Lib (decDigits)
set_option linter.unusedVariables false

structure Ten where
  name : ByteArray
  key : List UInt8
/-- What was read so far. -/
structure Rd where
  tens : List Ten
  cap : Int
  sess : Int
  evs : List Ev
def rd0 : Rd := ⟨[], 0, 0, []⟩
def wTen : List UInt8 := [116, 101, 110, 97, 110, 116]
def wCap : List UInt8 := [99, 97, 112, 97, 99, 105, 116, 121]
def wSes : List UInt8 := [115, 101, 115, 115, 105, 111, 110, 115]
/-- A line without its end. -/
def takeOf (st : Rd) (l : List UInt8) : Option Rd :=
  if l = [] ∨ l.head? = some 35 then some st
  else if first (words l) = wTen then
    (if checkOf (words l) wTen [116, 98] ≠ 0 ∨ st.evs ≠ [] then none
     else match fieldsOf (words l) [116, 98] with
       | [f, g] => some { st with tens := st.tens ++ [⟨S f.text, g.data⟩] }
       | _ => none)
  else if first (words l) = wCap then
    (if checkOf (words l) wCap [115] ≠ 0 ∨ st.evs ≠ [] then none
     else match fieldsOf (words l) [115] with
       | [f] => some { st with cap := f.n }
       | _ => none)
  else if first (words l) = wSes then
    (if checkOf (words l) wSes [115] ≠ 0 ∨ st.evs ≠ [] then none
     else match fieldsOf (words l) [115] with
       | [f] => some { st with sess := f.n }
       | _ => none)
  else if (parseOf l).2 ≠ 0 then none
  else some { st with evs := st.evs ++ [(parseOf l).1] }
/-- A line with its end. -/
def lineOf (st : Rd) (x : ByteArray) : Option Rd := if ends x = true then takeOf st (L (x.extract 0 (x.size - 1))) else none
/-- Lines, one behind the other. -/
def foldO : List ByteArray → Rd → Option Rd
  | [], st => some st
  | x :: xs, st => match lineOf st x with
    | none => none
    | some st' => foldO xs st'
theorem foldO_snoc : ∀ (xs : List ByteArray) (x : ByteArray) (st : Rd), foldO (xs ++ [x]) st = match foldO xs st with | none => none | some st' => lineOf st' x
  | [], x, st => by
    simp only [List.nil_append, foldO]
    cases lineOf st x <;> rfl
  | y :: xs, x, st => by
    simp only [List.cons_append, foldO]
    cases lineOf st y with
    | none => rfl
    | some st' => exact foldO_snoc xs x st'

/-- What is wrong with tenants; those of some names are there. -/
def chkT : List (List UInt8) → List Ten → Nat
  | _, [] => 0
  | seen, t :: l => if namedB 16 smallB lowB (L t.name) = false then 7 else if L t.name ∈ seen then 9 else if t.key.length < 1 ∨ 32 < t.key.length then 2 else chkT (seen ++ [L t.name]) l
def checkT (l : List Ten) : Nat := if 8 < l.length then 3 else chkT [] l
/-- What is wrong with a setup. -/
def checkS (l : List Ten) (cap sess : Int) : Nat := if checkT l ≠ 0 then checkT l else if cap < 0 ∨ sess < 0 then 6 else 0
end Go.Proofs.YtinabbdecmjcpaaGreatDoor.Script

namespace Go.Proofs.YtinabbdecmjcpaaGreatDoor.Script
open Go.RowKit Go.Shelf Go.Proofs.YtinabbdecmjcpaaGreatDoor Go.Proofs.YtinabbdecmjcpaaGreatDoor.Plain Go.Proofs.YtinabbdecmjcpaaGreatDoor.Words
attribute [local go_sem] Oper.semAt_some
set_option linter.unusedVariables false

/-- What the loop's book-keeping leaves alone: all but block B, and objects from N on that are no cells. -/
structure Kept (B N : Nat) (W W' : World) : Prop where
  os : W'.os = W.os
  tape : W'.tape = W.tape
  output : W'.output = W.output
  size : W.heap.size ≤ W'.heap.size
  block : ∀ k, k < W.heap.size → k ≠ B → W'.heap[k]? = W.heap[k]? ∨ (N ≤ k ∧ ∃ o : Obj, W.heap[k]? = some o ∧ o.isCells = false)
theorem Kept.putObj {B N : Nat} {W : World} {l : Nat} {o : Obj} (o' : Obj) (hl : W.heap[l]? = some o) (ho : o.isCells = false) (hn : N ≤ l) : Kept B N W (W.putObj l o') :=
  ⟨rfl, rfl, rfl, by simp, fun k hk _ => by
    by_cases e : k = l
    · subst e; exact .inr ⟨hn, o, hl, ho⟩
    · exact .inl (World.putObj_heap_other e)⟩
theorem Kept.alloc {B N : Nat} (W : World) (o : Obj) : Kept B N W (W.alloc o) := ⟨rfl, rfl, rfl, by simp, fun k hk _ => .inl (Below.heap_alloc W o k hk)⟩
theorem Kept.setCell {B N : Nat} (W : World) (v : Value) : Kept B N W (W.setCell ⟨B, 0, none⟩ v) := ⟨rfl, rfl, rfl, by simp, fun k hk hb => .inl (Below.heap_setCell _ _ _ _ hb)⟩
theorem Kept.drew {B N : Nat} (W : World) : Kept B N W W.drew := ⟨rfl, rfl, rfl, Nat.le_refl _, fun k hk _ => .inl rfl⟩
/-- A block of cells, but for B, lies as it lay. -/
theorem Kept.cells {B N : Nat} {W W' : World} (h : Kept B N W W') {k : Nat} {o : Obj} (hk : W.heap[k]? = some o) (ho : o.isCells = true) (hb : k ≠ B) : W'.heap[k]? = W.heap[k]? := by
  rcases h.block k (Array.getElem?_eq_some_iff.1 hk).1 hb with e | ⟨_, o2, h2, h3⟩
  · exact e
  · rw [hk] at h2
    cases h2
    rw [ho] at h3
    cases h3
theorem Kept.cell {B N : Nat} {W W' : World} (h : Kept B N W W') {b i : Nat} {v : Value} (hc : W.cell? ⟨b, i, none⟩ = some v) (hb : b ≠ B) : W'.cell? ⟨b, i, none⟩ = some v := by
  obtain ⟨o, ho, hcs⟩ := cells_of_cell hc
  exact (World.cell?_of_block (w := W) (h.cells ho hcs hb)).trans hc
theorem Kept.frozen {B N : Nat} {W W' : World} (h : Kept B N W W') {b i j : Nat} {v : Value} {f : Bool} (hc : W.cell? ⟨b, j, none⟩ = some v) (hb : b ≠ B) (hf : W.frozen? ⟨b, i, none⟩ = f) : W'.frozen? ⟨b, i, none⟩ = f := by
  obtain ⟨o, ho, hcs⟩ := cells_of_cell hc
  exact (World.frozen?_of_block (w := W) (a := ⟨b, i, none⟩) (h.cells ho hcs hb)).trans hf
theorem Kept.below {B N n : Nat} {w W W' : World} (h : Kept B N W W') (hb : Below n w W) (hn : n ≤ w.heap.size) (hB : n ≤ B) (hN : n ≤ N) : Below n w W' :=
  ⟨h.os.trans hb.os, h.tape.trans hb.tape, h.output.trans hb.output, Nat.le_trans hb.size h.size, fun k hk => by
    have hk' : k < W.heap.size := Nat.lt_of_lt_of_le (Nat.lt_of_lt_of_le hk hn) hb.size
    rcases h.block k hk' (by omega) with e | ⟨h1, _⟩
    · exact e.trans (hb.block k hk)
    · omega⟩
/-- Calls that write into blocks of cells leave all that is no cells alone. -/
theorem keeps_chg {bs : List Nat} {W W' : World} (h : Chg bs W W') (hb : ∀ b ∈ bs, ∃ o : Obj, W.heap[b]? = some o ∧ o.isCells = true) : KeepsOthers W W' :=
  ⟨h.size, fun k o hk ho => by
    have hl := (Array.getElem?_eq_some_iff.1 hk).1
    by_cases e : k ∈ bs
    · obtain ⟨o2, h2, h3⟩ := hb k e
      rw [hk] at h2
      cases h2
      rw [ho] at h3
      cases h3
    · exact (h.block k hl e).trans hk⟩

/-- How the body of a round may be left. -/
def roundEnd (B : Nat) (I Ix : List ByteArray → World → Prop) (xs : List ByteArray) (W : World) : Exit → Act → World → Prop
  | .normal, _, W' => KeepsOthers W W' ∧ W'.cell? ⟨B, 0, none⟩ = W.cell? ⟨B, 0, none⟩ ∧ W'.frozen? ⟨B, 0, none⟩ = W.frozen? ⟨B, 0, none⟩ ∧ I xs W'
  | .ret, _, W' => KeepsOthers W W' ∧ Ix xs W'
  | _, _, _ => False

set_option maxHeartbeats 1000000 in
theorem range_lines {n : Nat} {g : Operand} {ps : Array Tmp} {assign body : Code} {Q : Exit → Act → World → Prop} {a : Act} {w : World} (B : Nat) (s : ByteArray) (h1 : 1 ≤ n) (hg : a.eval g = .func (.func 43) #[] #[.pointer (some ⟨B, 0, none⟩)])
    (hs : s.size ≤ 1000000000000) (hB : w.cell? ⟨B, 0, none⟩ = some (.string s)) (hf : w.frozen? ⟨B, 0, none⟩ = false) (hps : ps.size = 1)
    (I Ix : List ByteArray → World → Prop) (hI : ∀ pre W W', I pre W → Kept B w.heap.size W W' → I pre W') (hIx : ∀ pre W W', Ix pre W → Kept B w.heap.size W W' → Ix pre W') (h0 : I [] w) (a₁ : ByteArray → Act)
    (hassign : ∀ (l : Nat) (x : ByteArray) (W : World) (K : Act → World → Prop), K (a₁ x) W →
      assign.wpIn (Fence.wide.inRound l) (n - 1 - 1) Tryz.prog (Exit.then K (fun _ _ _ => False)) { tmps := (ps.zip #[.string x]).foldl (fun t (p, v) => t.setIfInBounds p v) a.tmps, defers := [] } W)
    (hbody : ∀ (l : Nat) (pre : List ByteArray) (x : ByteArray) (W : World), I pre W → (pre ++ [x]).map L <+: linesOf (L s) → body.wpIn (Fence.wide.inRound l) (n - 1 - 1) Tryz.prog (roundEnd B I Ix (pre ++ [x]) W) (a₁ x) W)
    (hdone : ∀ (D : Nat) (xs : List ByteArray) (W : World), w.heap.size ≤ D → xs.map L = linesOf (L s) → I xs W → W.heap[D]? = some (.deferred (some [])) → Q .normal { a with defers := { target := .collected D, args := #[] } :: a.defers } W)
    (hstop : ∀ (D : Nat) (pre : List ByteArray) (W : World), w.heap.size ≤ D → pre.map L <+: linesOf (L s) → Ix pre W → W.heap[D]? = some (.deferred (some [])) → Code.ret.wpIn Fence.wide n Tryz.prog Q { a with defers := { target := .collected D, args := #[] } :: a.defers } W) :
    (Code.rangeFunc g ps assign body).wpIn Fence.wide n Tryz.prog Q a w := by
  have hBl : B < w.heap.size := World.block_lt_of_cell? _ _ hB
  refine wpIn_rangeFunc ?_
  intro fn hfn
  obtain ⟨rec, hrec⟩ : ∃ rec : LoopState → Option Code → Loop, rec = fun st pe => { state := st, pending := pe, fn, tmps := a.tmps, params := ps, assign, body, defers := w.heap.size } := ⟨_, rfl⟩
  have hL1 : ((w.alloc (.deferred (some []))).alloc (.loop (rec .ready none))).heap[w.heap.size + 1]? = some (.loop (rec .ready none)) := by
    have := World.alloc_heap_new (w.alloc (.deferred (some []))) (.loop (rec .ready none))
    rwa [World.size_alloc] at this
  have hK1 : ((w.alloc (.deferred (some []))).alloc (.loop (rec .ready none))).heap[w.heap.size]? = some (.deferred (some [])) :=
    (Below.heap_alloc _ _ _ (by simp)).trans (World.alloc_heap_new w _)
  have hI1 : I [] ((w.alloc (.deferred (some []))).alloc (.loop (rec .ready none))) := hI _ _ _ (hI _ _ _ h0 (Kept.alloc _ _)) (Kept.alloc _ _)
  have hb1 : Below w.heap.size w ((w.alloc (.deferred (some []))).alloc (.loop (rec .ready none))) := ((Below.refl _ w).alloc (Nat.le_refl _) _).alloc (by simp) _
  have hB1 := (hb1.cell (p := ⟨B, 0, none⟩) hBl).trans hB
  have hf1 := (World.frozen?_of_block (w := w) (a := ⟨B, 0, none⟩) (hb1.block B hBl)).trans hf
  generalize hW1 : (w.alloc (.deferred (some []))).alloc (.loop (rec .ready none)) = W1 at *
  refine ⟨w.heap.size + 1, [{ target := .collected w.heap.size, args := #[] }], W1, { target := .fn (.func 43) #[.pointer (some ⟨B, 0, none⟩)], args := #[.func (.yield (w.heap.size + 1)) #[] #[]] }, W1, 43,
    #[.func (.yield (w.heap.size + 1)) #[] #[], .pointer (some ⟨B, 0, none⟩)], W1, ?_, ?_, fun _ _ => trivial, ?_, fun _ => h1, ?_⟩
  · rw [← hW1, hrec]
    exact run_enterLoop_outer _ _ _ _ _
  · simp only [resolve, hg]
    simp [go_sem]
  · have eg := enters_of (P := Tryz.prog) Tryz.func43 (by kernel_rfl) rfl
    simp [invoke, go_sem, eg #[.func (.yield (w.heap.size + 1)) #[] #[], .pointer (some ⟨B, 0, none⟩)] W1]
  · have hne : ∀ k : Nat, w.heap.size ≤ k → k ≠ B := fun k hk => by omega
    refine (lines1_in (n - 1) (w.heap.size + 1) B s
      (fun pre W => I pre W ∧ W.heap[w.heap.size + 1]? = some (.loop (rec .ready none)) ∧ W.heap[w.heap.size]? = some (.deferred (some [])))
      (fun pre W => Ix pre W ∧ W.heap[w.heap.size + 1]? = some (.loop (rec .done (some .ret))) ∧ W.heap[w.heap.size]? = some (.deferred (some [])))
      (fun pre W v h => ⟨hI _ _ _ h.1 (Kept.setCell W v), (Below.heap_setCell _ _ _ _ (hne _ (by omega))).trans h.2.1, (Below.heap_setCell _ _ _ _ (hne _ (by omega))).trans h.2.2⟩)
      (fun pre W h => ⟨hI _ _ _ h.1 (Kept.drew W), h.2.1, h.2.2⟩)
      ?_ W1 hs hB1 hf1 ⟨hI1, hL1, hK1⟩).mono ?_
    · rintro pre x W ⟨hi, hl, hk⟩ hpre
      have hlt : w.heap.size + 1 < W.heap.size := (Array.getElem?_eq_some_iff.1 hl).1
      have hy := run_yield (P := Tryz.prog) (args := #[.string x]) hl (by rw [hrec]; exact hps.symm)
      rw [hrec] at hy
      refine ⟨fn, _, assign, body, hy, roundIn_of_wpIn hfn (hassign _ x W _ ⟨_, run_beginRound hl (by rw [hrec]), ?_⟩)⟩
      have hl2 : (W.putObj (w.heap.size + 1) (.loop { rec .ready none with state := .busy })).heap[w.heap.size + 1]? = some (.loop { rec .ready none with state := .busy }) := World.putObj_heap_same hlt
      have hk2 : (W.putObj (w.heap.size + 1) (.loop { rec .ready none with state := .busy })).heap[w.heap.size]? = some (.deferred (some [])) := (World.putObj_heap_other (by omega)).trans hk
      have hc2 : ∀ i, (W.putObj (w.heap.size + 1) (.loop { rec .ready none with state := .busy })).cell? ⟨B, i, none⟩ = W.cell? ⟨B, i, none⟩ := fun i => World.cell?_of_block (w := W) (a := ⟨B, i, none⟩) (World.putObj_heap_other (show B ≠ w.heap.size + 1 by omega))
      have hz2 : ∀ i, (W.putObj (w.heap.size + 1) (.loop { rec .ready none with state := .busy })).frozen? ⟨B, i, none⟩ = W.frozen? ⟨B, i, none⟩ := fun i => World.frozen?_of_block (w := W) (a := ⟨B, i, none⟩) (World.putObj_heap_other (show B ≠ w.heap.size + 1 by omega))
      refine wpIn_mono (hbody _ pre x _ (hI _ _ _ hi (Kept.putObj _ hl rfl (by omega))) hpre) ?_
      have fin : ∀ (jump : Option Code) (W3 : World), KeepsOthers (W.putObj (w.heap.size + 1) (.loop { rec .ready none with state := .busy })) W3 →
          (Instr.endRound (w.heap.size + 1) jump).run Tryz.prog W3 = .ok (.bool jump.isNone) (W3.putObj (w.heap.size + 1) (.loop (rec (if jump.isNone then .ready else .done) jump))) ∧
          W3.heap[w.heap.size + 1]? = some (.loop { rec .ready none with state := .busy }) ∧
          (W3.putObj (w.heap.size + 1) (.loop (rec (if jump.isNone then .ready else .done) jump))).heap[w.heap.size + 1]? = some (.loop (rec (if jump.isNone then .ready else .done) jump)) ∧
          (W3.putObj (w.heap.size + 1) (.loop (rec (if jump.isNone then .ready else .done) jump))).heap[w.heap.size]? = some (.deferred (some [])) := fun jump W3 hk3 => by
        have hl3 := hk3.same _ _ hl2 rfl
        have := run_endRound (P := Tryz.prog) jump hl3
        rw [hrec] at this ⊢
        exact ⟨this, by rw [hrec] at hl3; exact hl3, World.putObj_heap_same (Array.getElem?_eq_some_iff.1 hl3).1, (World.putObj_heap_other (by omega)).trans (hk3.same _ _ hk2 rfl)⟩
      rintro e a3 W3 hp
      cases e with
      | normal =>
        obtain ⟨hk3, hcb, hzb, hi3⟩ := hp
        obtain ⟨hr, hl3, hl4, hk4⟩ := fin none W3 hk3
        refine ⟨_, _, hr, .inl ⟨rfl, ⟨hI _ _ _ hi3 (Kept.putObj _ hl3 rfl (by omega)), hl4, hk4⟩, ?_, ?_⟩⟩
        · exact (World.cell?_of_block (w := W3) (a := ⟨B, 0, none⟩) (World.putObj_heap_other (show B ≠ w.heap.size + 1 by omega))).trans (hcb.trans (hc2 0))
        · exact (World.frozen?_of_block (w := W3) (a := ⟨B, 0, none⟩) (World.putObj_heap_other (show B ≠ w.heap.size + 1 by omega))).trans (hzb.trans (hz2 0))
      | ret =>
        obtain ⟨hk3, hi3⟩ := hp
        obtain ⟨hr, hl3, hl4, hk4⟩ := fin (some .ret) W3 hk3
        exact ⟨_, _, hr, .inr ⟨rfl, hIx _ _ _ hi3 (Kept.putObj _ hl3 rfl (by omega)), hl4, hk4⟩⟩
      | exit id => exact hp.elim
      | goto t => exact hp.elim
      | panic ch => exact hp.elim
      | outgrown => exact hp.elim
    · rintro e W2 ⟨⟨v, rfl⟩, (⟨xs, hS, hi, hl, hk⟩ | ⟨pre, hSp, hi, hl, hk⟩)⟩
      · exact ⟨none, _, by have := run_endLoop (P := Tryz.prog) hl (by rw [hrec]; simp); rw [hrec] at this; exact this, hdone _ xs _ (Nat.le_refl _) hS (hI _ _ _ hi (Kept.putObj _ hl rfl (by omega))) ((World.putObj_heap_other (by omega)).trans hk)⟩
      · exact ⟨some .ret, _, by have := run_endLoop (P := Tryz.prog) hl (by rw [hrec]; simp); rw [hrec] at this; exact this, hstop _ pre _ (Nat.le_refl _) hSp (hIx _ _ _ hi (Kept.putObj _ hl rfl (by omega))) ((World.putObj_heap_other (by omega)).trans hk)⟩
end Go.Proofs.YtinabbdecmjcpaaGreatDoor.Script
