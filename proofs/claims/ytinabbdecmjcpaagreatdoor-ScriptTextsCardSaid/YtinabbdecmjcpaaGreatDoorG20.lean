/- What is read of a script's text, with lines between that tell nothing: the script. And how long such a text is. Contracts of the references' Same of layer 40 and Lists of layer 39, at two that are the same. The contract of the law's awake: the chapter's example is answered. -/
import Derived.Deep.RegionHeld3
import Derived.Test.YtinabbdecmjcpaaGreatDoorG19
import Derived.Test.YtinabbdecmjcpaaGreatDoorGRead
import Derived.Test.YtinabbdecmjcpaaGreatDoorGRefLines
import Derived.Test.YtinabbdecmjcpaaGreatDoorG21
import Derived.Test.YtinabbdecmjcpaaGreatDoorG17
import Derived.Test.YtinabbdecmjcpaaGreatDoorG10
import Derived.Test.YtinabbdecmjcpaaGreatDoorGEvPrint
import Derived.Test.YtinabbdecmjcpaaGreatDoorG18
namespace Go.Proofs.YtinabbdecmjcpaaGreatDoor.Script
open Go.RowKit Go.Deep Go.Proofs.YtinabbdecmjcpaaGreatDoor Go.Proofs.YtinabbdecmjcpaaGreatDoor.Plain Go.Proofs.YtinabbdecmjcpaaGreatDoor.Words Go.Proofs.YtinabbdecmjcpaaGreatDoor.Named Go.Proofs.YtinabbdecmjcpaaGreatDoor.Hex Go.Proofs.YtinabbdecmjcpaaGreatDoor.Number Go.Proofs.YtinabbdecmjcpaaGreatDoor.Ev
set_option linter.unusedVariables false

/-- The lines between. -/
def betw : Nat → List (List UInt8)
  | 1 => [[]]
  | 2 => [[35, 32, 98, 111, 111, 116]]
  | _ => []
/-- What stands behind each line. -/
def behind (k : Nat) : List UInt8 := (betw k).flatMap fun b => b ++ [10]
theorem behind0 : behind 0 = [] := rfl
theorem behind1 : behind 1 = [10] := rfl
theorem behind2 : behind 2 = [35, 32, 98, 111, 111, 116, 10] := rfl
theorem betw_blank (k : Nat) : ∀ l ∈ betw k, l = [] ∨ l.head? = some 35 := by
  unfold betw
  split <;> simp
theorem betw_no10 (k : Nat) : ∀ l ∈ betw k, 10 ∉ l := by
  unfold betw
  split <;> simp
theorem behind_len (k : Nat) : (behind k).length ≤ 7 := by
  unfold behind betw
  split <;> simp
theorem text_len_b (b : List UInt8) : ∀ ls : List (List UInt8), (textL (ls.map S) b).length = sum1 ls + ls.length * b.length
  | [] => by simp [textL, sum1]
  | l :: ls => by
    have := text_len_b b ls
    show ((L (S l) ++ 10 :: b) ++ textL (ls.map S) b).length = ((l.length + 1) + sum1 ls) + (ls.length + 1) * b.length
    rw [List.length_append, this, List.length_append, List.length_cons, Nat.add_mul]
    show l.length + (b.length + 1) + _ = _
    omega
theorem scriptB_parts {ts : List Ten} {cap sess : Int} {es : List Ev} (h : scriptB ts cap sess es = true) : checkS ts cap sess = 0 ∧ cap ≤ 2147483647 ∧ sess ≤ 2147483647 ∧ ∀ e ∈ es, (printOf e).isSome = true := by
  unfold scriptB allP at h
  simp only [Bool.and_eq_true, beq_iff_eq, decide_eq_true_eq, List.all_eq_true] at h
  exact ⟨h.1.1.1, h.1.1.2, h.1.2, h.2⟩
theorem tens_sum : ∀ ts : List Ten, (∀ t ∈ ts, namedB 16 smallB lowB (L t.name) = true ∧ 1 ≤ t.key.length ∧ t.key.length ≤ 32) → sum1 (ts.map tenL) ≤ 101 * ts.length
  | [], _ => by simp [sum1]
  | t :: ts, h => by
    have h1 := h t (by simp)
    have h2 := tenL_len t h1.1 h1.2.2 (named_size _ h1.1)
    have h3 := tens_sum ts (fun x hx => h x (by simp [hx]))
    show ((tenL t).length + 1) + sum1 (ts.map tenL) ≤ 101 * (ts.length + 1)
    omega
theorem lines_sum (ts : List Ten) (cap sess : Nat) (es : List Ev) (h8 : ts.length ≤ 8) (ht : ∀ t ∈ ts, namedB 16 smallB lowB (L t.name) = true ∧ 1 ≤ t.key.length ∧ t.key.length ≤ 32) (hc : cap < 18446744073709551616) (hs : sess < 18446744073709551616) (h60 : es.length ≤ 60)
    (he : ∀ e ∈ es, Fits e ∧ e.tenant.size ≤ 100 ∧ (printOf e).isSome = true) (hd : dsum es ≤ 5000) : (linesL ts cap sess es).length ≤ 70 ∧ sum1 (linesL ts cap sess es) ≤ 40000 := by
  have h1 := tens_sum ts ht
  have h2 := evs_sum es he
  have h3 := capL_len cap hc
  have h4 := sesL_len sess hs
  have h5 : sum1 [capL cap, sesL sess] = (capL cap).length + 1 + ((sesL sess).length + 1) := by simp [sum1]
  unfold linesL
  rw [sum1_app, sum1_app, h5]
  refine ⟨by simp; omega, by omega⟩
theorem read_ok (ts : List Ten) (cap sess : Nat) (es : List Ev) (k : Nat) (ht : ∀ t ∈ ts, namedB 16 smallB lowB (L t.name) = true) (hc : cap ≤ 2147483647) (hs : sess ≤ 2147483647) (he : ∀ e ∈ es, Fits e ∧ (printOf e).isSome = true) (hck : checkS ts cap sess = 0)
    (w : World) (e : Ending) (w' : World) (h : ReadPost (S (textL ((linesL ts cap sess es).map S) (behind k))) w e w') :
    Below w.heap.size w w' ∧ ∃ vt ve, e = .returned (.tuple #[setV vt (cap : Int) (sess : Int), ve, .int .i64 0, .int .i64 0]) ∧ TRow w' vt ts ∧ ERow w' ve es := by
  obtain ⟨hb, h⟩ := h
  refine ⟨hb, ?_⟩
  have hf := fold_lines (betw k) (betw_blank k) ts cap sess es ht hc hs he
  have hn := no10_lines ts cap sess es ht he
  have hl := lines_text (betw k) (betw_no10 k) (linesL ts cap sess es) hn
  have hx0 : (withB (linesL ts cap sess es) (betw k)).map L = linesOf (textL ((linesL ts cap sess es).map S) (behind k)) := by
    rw [textL_S]
    exact hl.symm
  rcases h with ⟨j, hj, _⟩ | ⟨xs, st, vt, ve, hx, hf', hc', ht', he', rfl⟩
  · exact absurd hj (no_err _ _ _ j hx0 hf hck)
  · rw [show L (S (textL ((linesL ts cap sess es).map S) (behind k))) = textL ((linesL ts cap sess es).map S) (behind k) from rfl, ← hx0] at hx
    rw [mapL_inj _ _ hx, hf] at hf'
    cases hf'
    exact ⟨vt, ve, rfl, ht', he'⟩
theorem srow_own {w : World} {base n : Nat} {v : Value} {ls : List (List UInt8)} (hn : n = ls.length) (h : w.ownsRow base 9 1 v n (strs ls)) : SRow w v (ls.map S) := by
  rcases h.2 with ⟨rfl, h0⟩ | ⟨g, cap, cur, rfl, _⟩
  · have : ls = [] := by
      have h1 : ls.length = 0 := by omega
      exact List.length_eq_zero_iff.1 h1
    subst this
    exact .inl ⟨rfl, none, 0, rfl⟩
  · refine .inr ⟨g, 0, cap, by simp [hn], fun j hj => ?_⟩
    have hj' : j < n := by simpa [hn] using hj
    rw [Nat.zero_add, World.ownsRow.cellAt h j (by omega)]
    simp [strs, show j < ls.length by omega]
end Go.Proofs.YtinabbdecmjcpaaGreatDoor.Script

namespace Go.Proofs.YtinabbdecmjcpaaGreatDoor.Script
open Go.RowKit Go.Deep Go.Proofs.YtinabbdecmjcpaaGreatDoor Go.Proofs.YtinabbdecmjcpaaGreatDoor.Plain Go.Proofs.YtinabbdecmjcpaaGreatDoor.Words Go.Proofs.YtinabbdecmjcpaaGreatDoor.Named Go.Proofs.YtinabbdecmjcpaaGreatDoor.Hex Go.Proofs.YtinabbdecmjcpaaGreatDoor.Number Go.Proofs.YtinabbdecmjcpaaGreatDoor.Queue Go.Proofs.YtinabbdecmjcpaaGreatDoor.Line Go.Proofs.YtinabbdecmjcpaaGreatDoor.Ev
set_option linter.unusedVariables false

theorem same_eq (l : List UInt8) (v1 v2 : Value) (w : World) (hl : l.length ≤ 1000000000000) (h1 : BRow w v1 l) (h2 : BRow w v2 l) : Calls Tryz.prog 29 #[v1, v2] w fun e w' => e = .returned (.bool true) ∧ Below w.heap.size w w' := by
  have := same_any l l v1 v2 w hl hl h1 h2
  rw [decide_eq_true rfl] at this
  exact this
set_option maxRecDepth 100000 in
set_option maxHeartbeats 8000000 in
theorem same40 (ts : List Ten) (cap sess : Int) (v1 v2 : Value) (w : World) (h1 : TRow w v1 ts) (h2 : TRow w v2 ts) (hn : ts.length ≤ 1000000) (hk : ∀ t ∈ ts, t.key.length ≤ 1000000000000) :
    Calls Tryz.prog 12 #[setV v1 cap sess, setV v2 cap sess] w fun e w' => e = .returned (.bool true) ∧ Below w.heap.size w w' := by
  obtain ⟨a1, c1, rfl⟩ := trow_form h1
  obtain ⟨a2, c2, rfl⟩ := trow_form h2
  obtain ⟨n, hN⟩ : ∃ n, n = ts.length := ⟨_, rfl⟩
  rw [← hN] at h1 h2 hn ⊢
  have H := Lib.hid (And.intro h1 h2)
  have HK := Lib.hid hk
  have HN := Lib.hid hN
  obtain ⟨w1, hw1⟩ : ∃ w1, w1 = w.alloc (.cells #[.slice a1 n c1, .int .i64 cap, .int .i64 sess] 24) := ⟨_, rfl⟩
  obtain ⟨w2, hw2⟩ : ∃ w2, w2 = w1.alloc (.cells #[.slice a2 n c2, .int .i64 cap, .int .i64 sess] 24) := ⟨_, rfl⟩
  have b1 : Below w.heap.size w w1 := by rw [hw1]; exact (Below.refl _ _).alloc (Nat.le_refl _) _
  have b2 : Below w1.heap.size w1 w2 := by rw [hw2]; exact (Below.refl _ _).alloc (Nat.le_refl _) _
  have z1 : w1.heap.size = w.heap.size + 1 := by rw [hw1]; simp
  have y0 : w2.cell? ⟨w.heap.size, 0, none⟩ = some (.slice a1 n c1) := keep_c b2 (by rw [hw1]; exact World.cell?_alloc_at _ _ _ _ rfl)
  have y1 : w2.cell? ⟨w.heap.size + 1, 0, none⟩ = some (.slice a2 n c2) := by rw [← z1, hw2]; exact World.cell?_alloc_at _ _ _ _ rfl
  have B := Lib.hid (bt b1 b2)
  have Y := Lib.hid (And.intro y0 y1)
  rw [hw2, hw1] at B Y
  have t1 : (cap != cap) = false := by simp
  have t2 : (sess != sess) = false := by simp
  clear h1 h2 hk hN b1 b2 z1 y0 y1 hw1 hw2 w2 w1
  go_enter Tryz.func12, Tryz.ntmps12
  go_wp2
  generalize (w.alloc (.cells #[.slice a1 n c1, .int .i64 cap, .int .i64 sess] 24)).alloc (.cells #[.slice a2 n c2, .int .i64 cap, .int .i64 sess] 24) = w2 at *
  go_loopw [5] (fun v wr => ∃ k : Nat, k ≤ n ∧ v = .int .i64 (k : Int) ∧ Hid (Below w2.heap.size w2 wr)) (fun v _ => n - (intOf v).toNat)
  case atStart => exact ⟨0, by omega, rfl, Lib.hid (Below.refl _ _)⟩
  case round =>
    obtain ⟨k, hkn, rfl, hb⟩ := hrel
    have q0 := keep_c hb.out Y.out.1
    have q1 := keep_c hb.out Y.out.2
    by_cases hlt : k < n
    · have hl : k < ts.length := by have := HN.out; omega
      obtain ⟨g, o, rfl, _, hev⟩ := trow_at (HN.out ▸ H.out.1) (by omega)
      obtain ⟨g', o', rfl, _, hev'⟩ := trow_at (HN.out ▸ H.out.2) (by omega)
      obtain ⟨p0, kv, p1, hcr⟩ := (hev k ts[k] (List.getElem?_eq_getElem hl)).below (bt B.out hb.out)
      obtain ⟨r0, kv', r1, hcr'⟩ := (hev' k ts[k] (List.getElem?_eq_getElem hl)).below (bt B.out hb.out)
      obtain ⟨ak, ck, rfl⟩ := crow_form hcr
      obtain ⟨ak', ck', rfl⟩ := crow_form hcr'
      have HKK := Lib.hid (HK.out ts[k] (List.getElem_mem hl))
      have HC := Lib.hid (And.intro hcr hcr')
      clear hev hev' hcr hcr'
      generalize ts[k].name = x at *
      generalize ts[k].key = y at *
      have HS : Hid (∀ W, Below wr.heap.size wr W → Calls Tryz.prog 29 #[.slice ak y.length ck, .slice ak' y.length ck'] W fun e w' => e = .returned (.bool true) ∧ Below W.heap.size W w') := Lib.hid fun W hW => same_eq y _ _ W HKK.out (brow_below hW HC.out.1.row) (brow_below hW HC.out.2.row)
      have wk : IntKind.i64.wrap ((k : Int) + 1) = (k : Int) + 1 := IntWalk.i64_in _ (by omega)
      have k0 : (0 : Int) ≤ (k : Int) := by omega
      have k1 : (k : Int) < (n : Int) := by omega
      have t3 : (x.toList != x.toList) = false := by simp
      go_wp2_with fail
      go_region_held3 (fun w' => w'.cell? ⟨w.heap.size, 0, none⟩ = some (.slice (some ⟨g, o, none⟩) n c1) ∧ w'.cell? ⟨w.heap.size + 1, 0, none⟩ = some (.slice (some ⟨g', o', none⟩) n c2) ∧ w'.cell? ⟨g, o + k * 2, none⟩ = some (.string x) ∧ w'.cell? ⟨g', o' + k * 2, none⟩ = some (.string x) ∧ w'.cell? ⟨g, o + k * 2 + 1, none⟩ = some (.slice ak y.length ck) ∧ w'.cell? ⟨g', o' + k * 2 + 1, none⟩ = some (.slice ak' y.length ck'))
        (first | go_keep | exact ⟨keep_c hb3 q0, keep_c hb3 q1, keep_c hb3 p0, keep_c hb3 r0, keep_c hb3 p1, keep_c hb3 r1⟩)
        (first
          | (go_at_call 29; refine (HS.out _ ((Below.refl _ wr).drew)).mono ?_; rintro e w3 ⟨rfl, hb3'⟩; have hb3 := bt ((Below.refl _ wr).drew) hb3'; clear hb3'))
      all_goals
        have HB3 := Lib.hid (bt hb.out hb3)
        clear hb3
        go_wp2
        go_roundw
        case rel => exact ⟨k + 1, by omega, by go_num, HB3⟩
        case measure => simp [intOf]; omega
    · have hnk : k = n := by omega
      subst hnk
      go_wp2
      go_ret
      exact ⟨rfl, bt B.out hb.out⟩

set_option maxRecDepth 100000 in
set_option maxHeartbeats 8000000 in
theorem lists13 (es : List Ev) (v1 v2 : Value) (w : World) (h1 : ERow w v1 es) (h2 : ERow w v2 es) (hn : es.length ≤ 1000000) (hk : ∀ e ∈ es, e.data.length ≤ 1000000000000) :
    Calls Tryz.prog 13 #[v1, v2] w fun e w' => e = .returned (.bool true) ∧ Below w.heap.size w w' := by
  obtain ⟨a1, c1, rfl⟩ := erow_form h1
  obtain ⟨a2, c2, rfl⟩ := erow_form h2
  obtain ⟨n, hN⟩ : ∃ n, n = es.length := ⟨_, rfl⟩
  rw [← hN] at h1 h2 hn ⊢
  have H := Lib.hid (And.intro h1 h2)
  have HK := Lib.hid hk
  have HN := Lib.hid hN
  clear h1 h2 hk hN
  go_enter Tryz.func13, Tryz.ntmps13
  go_wp2
  go_loopw [5] (fun v wr => ∃ k : Nat, k ≤ n ∧ v = .int .i64 (k : Int) ∧ Hid (Below w.heap.size w wr)) (fun v _ => n - (intOf v).toNat)
  case atStart => exact ⟨0, by omega, rfl, Lib.hid (Below.refl _ _)⟩
  case round =>
    obtain ⟨k, hkn, rfl, hb⟩ := hrel
    by_cases hlt : k < n
    · have hl : k < es.length := by have := HN.out; omega
      obtain ⟨g, o, rfl, hev⟩ := erow_at (HN.out ▸ H.out.1) (by omega)
      obtain ⟨g', o', rfl, hev'⟩ := erow_at (HN.out ▸ H.out.2) (by omega)
      obtain ⟨av, cv, hcr, p0, p1, p2, p3, p4, p5, p6, p7⟩ := ((hev k es[k] (List.getElem?_eq_getElem hl)).below hb.out).load
      obtain ⟨av', cv', hcr', r0, r1, r2, r3, r4, r5, r6, r7⟩ := ((hev' k es[k] (List.getElem?_eq_getElem hl)).below hb.out).load
      have HKK := Lib.hid (HK.out es[k] (List.getElem_mem hl))
      have HC := Lib.hid (And.intro hcr hcr')
      clear hev hev' hcr hcr'
      generalize es[k] = e at *
      have HS : Hid (∀ W, Below wr.heap.size wr W → Calls Tryz.prog 30 #[evV e (.slice av e.data.length cv), evV e (.slice av' e.data.length cv')] W fun r w' => r = .returned (.bool true) ∧ Below W.heap.size W w') := Lib.hid fun W hW => by
        have := sameEv e e (.slice av e.data.length cv) (.slice av' e.data.length cv') W HKK.out HKK.out (brow_below hW HC.out.1.row) (brow_below hW HC.out.2.row)
        rw [(sameB_iff e e).2 rfl] at this
        exact this
      have wk : IntKind.i64.wrap ((k : Int) + 1) = (k : Int) + 1 := IntWalk.i64_in _ (by omega)
      have k0 : (0 : Int) ≤ (k : Int) := by omega
      have k1 : (k : Int) < (n : Int) := by omega
      go_wp2_with fail
      go_region_held3 (fun w' => w'.cell? ⟨g, o + k * 8, none⟩ = some (.int .i64 e.kind) ∧ w'.cell? ⟨g, o + k * 8 + 1, none⟩ = some (.int .i64 e.session) ∧ w'.cell? ⟨g, o + k * 8 + 2, none⟩ = some (.int .i64 e.stream) ∧ w'.cell? ⟨g, o + k * 8 + 3, none⟩ = some (.string e.tenant) ∧ w'.cell? ⟨g, o + k * 8 + 4, none⟩ = some (.int .u64 (e.n : Int)) ∧ w'.cell? ⟨g, o + k * 8 + 5, none⟩ = some (.int .i64 e.m) ∧ w'.cell? ⟨g, o + k * 8 + 6, none⟩ = some (.int .u64 (e.bits : Int)) ∧ w'.cell? ⟨g, o + k * 8 + 7, none⟩ = some (.slice av e.data.length cv) ∧ w'.cell? ⟨g', o' + k * 8, none⟩ = some (.int .i64 e.kind) ∧ w'.cell? ⟨g', o' + k * 8 + 1, none⟩ = some (.int .i64 e.session) ∧ w'.cell? ⟨g', o' + k * 8 + 2, none⟩ = some (.int .i64 e.stream) ∧ w'.cell? ⟨g', o' + k * 8 + 3, none⟩ = some (.string e.tenant) ∧ w'.cell? ⟨g', o' + k * 8 + 4, none⟩ = some (.int .u64 (e.n : Int)) ∧ w'.cell? ⟨g', o' + k * 8 + 5, none⟩ = some (.int .i64 e.m) ∧ w'.cell? ⟨g', o' + k * 8 + 6, none⟩ = some (.int .u64 (e.bits : Int)) ∧ w'.cell? ⟨g', o' + k * 8 + 7, none⟩ = some (.slice av' e.data.length cv'))
        (first | go_keep | exact ⟨keep_c hb3 p0, keep_c hb3 p1, keep_c hb3 p2, keep_c hb3 p3, keep_c hb3 p4, keep_c hb3 p5, keep_c hb3 p6, keep_c hb3 p7, keep_c hb3 r0, keep_c hb3 r1, keep_c hb3 r2, keep_c hb3 r3, keep_c hb3 r4, keep_c hb3 r5, keep_c hb3 r6, keep_c hb3 r7⟩)
        (first
          | (go_at_call 30; refine (HS.out _ ((Below.refl _ wr).drew)).mono ?_; rintro r w3 ⟨rfl, hb3'⟩; have hb3 := bt ((Below.refl _ wr).drew) hb3'; clear hb3'))
      all_goals
        have HB3 := Lib.hid (bt hb.out hb3)
        clear hb3
        go_wp2
        go_roundw
        case rel => exact ⟨k + 1, by omega, by go_num, HB3⟩
        case measure => simp [intOf]; omega
    · have hnk : k = n := by omega
      subst hnk
      go_wp2
      go_ret
      exact ⟨rfl, hb.out⟩
end Go.Proofs.YtinabbdecmjcpaaGreatDoor.Script

namespace Go.Proofs.YtinabbdecmjcpaaGreatDoor.Script
open Go.RowKit Go.Deep Go.Proofs.YtinabbdecmjcpaaGreatDoor Go.Proofs.YtinabbdecmjcpaaGreatDoor.Plain Go.Proofs.YtinabbdecmjcpaaGreatDoor.Words Go.Proofs.YtinabbdecmjcpaaGreatDoor.Named Go.Proofs.YtinabbdecmjcpaaGreatDoor.Hex Go.Proofs.YtinabbdecmjcpaaGreatDoor.Number Go.Proofs.YtinabbdecmjcpaaGreatDoor.Queue Go.Proofs.YtinabbdecmjcpaaGreatDoor.Line Go.Proofs.YtinabbdecmjcpaaGreatDoor.Ev
set_option linter.unusedVariables false

def exT : List UInt8 := [116, 101, 110, 97, 110, 116, 32, 97, 32, 54, 98, 10, 99, 97, 112, 97, 99, 105, 116, 121, 32, 49, 48, 48, 10, 35, 32, 120, 10, 115, 101, 115, 115, 105, 111, 110, 115, 32, 49, 10, 98, 111, 111, 116, 32, 48, 10]
def exB : List UInt8 := [98, 111, 111, 116, 32, 48]
def exX : List ByteArray := [lnS (tenL ⟨S [97], [107]⟩), lnS (capL 100), lnS [35, 32, 120], lnS (sesL 1), lnS exB]
def exR : Rd := ⟨[⟨S [97], [107]⟩], 100, 1, [(parseOf exB).1]⟩
theorem ex_lines : exX.map L = linesOf exT := by decide +kernel
theorem ex_fold : foldO exX rd0 = some exR := by
  have hp : parseOf exB = ((parseOf exB).1, 0) := Prod.ext rfl (by decide +kernel)
  unfold exX
  simp only [foldO, lineOf_lnS]
  rw [take_tenL rd0 ⟨S [97], [107]⟩ (by decide +kernel) rfl]
  simp only
  rw [take_capL _ 100 (by decide) rfl]
  simp only
  rw [take_blank _ [35, 32, 120] (.inr rfl)]
  simp only
  rw [take_sesL _ 1 (by decide) rfl]
  simp only
  rw [take_evL _ _ exB hp]
  rfl
theorem ex_check : checkS exR.tens exR.cap exR.sess = 0 := by decide +kernel
theorem ex_read (w : World) (e : Ending) (w' : World) (h : ReadPost (S exT) w e w') : Below w.heap.size w w' ∧ ∃ a1 c1 a2 c2, e = .returned (.tuple #[setV (.slice a1 1 c1) 100 1, .slice a2 1 c2, .int .i64 0, .int .i64 0]) := by
  obtain ⟨hb, h⟩ := h
  refine ⟨hb, ?_⟩
  rcases h with ⟨k, hk, _⟩ | ⟨xs, st, vt, ve, hx, hf, hc, ht, he, rfl⟩
  · exact absurd hk (no_err exT exX exR k ex_lines ex_fold ex_check)
  · rw [show L (S exT) = exT from rfl, ← ex_lines] at hx
    rw [mapL_inj _ _ hx, ex_fold] at hf
    cases hf
    obtain ⟨a1, c1, rfl⟩ := trow_form ht
    obtain ⟨a2, c2, rfl⟩ := erow_form he
    exact ⟨a1, c1, a2, c2, rfl⟩
set_option maxRecDepth 100000 in
set_option maxHeartbeats 4000000 in
theorem awake43 (w : World) : Calls Tryz.prog 6 #[] w fun e w' => e = .returned (.bool true) ∧ Below w.heap.size w w' := by
  have hr := Lib.hid (fun W => read45 (S exT) W (by decide))
  go_enter Tryz.func6, Tryz.ntmps6
  go_wp2_with fail
  refine (hr.out _).mono ?_
  intro e w2 hp
  obtain ⟨hb, a1, c1, a2, c2, rfl⟩ := ex_read _ _ _ hp
  have HB := Lib.hid hb
  clear hp hb
  go_wp2
  go_ret
  exact ⟨rfl, HB.out.alloc HB.out.size _⟩
end Go.Proofs.YtinabbdecmjcpaaGreatDoor.Script
