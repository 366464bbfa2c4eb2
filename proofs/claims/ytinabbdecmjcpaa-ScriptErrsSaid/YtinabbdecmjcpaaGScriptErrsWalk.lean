/- The walk of the law ScriptErrs. -/
import Derived.Test.YtinabbdecmjcpaaG16
import Derived.Test.YtinabbdecmjcpaaG17
namespace Go.Proofs.Ytinabbdecmjcpaa.Script
open Go.RowKit Go.Deep Go.Proofs.Ytinabbdecmjcpaa Go.Proofs.Ytinabbdecmjcpaa.Plain Go.Proofs.Ytinabbdecmjcpaa.Words Go.Proofs.Ytinabbdecmjcpaa.Named Go.Proofs.Ytinabbdecmjcpaa.Hex Go.Proofs.Ytinabbdecmjcpaa.Number Go.Proofs.Ytinabbdecmjcpaa.Queue Go.Proofs.Ytinabbdecmjcpaa.Line Go.Proofs.Ytinabbdecmjcpaa.Ev
set_option linter.unusedVariables false

/-- The law's own setup. -/
def w40 (w : World) : World := ((w.alloc (.cells #[.int .u8 107] 5 (1, 2))).alloc (.cells #[.string ⟨#[97]⟩, .slice (some ⟨w.heap.size, 0, none⟩) 1 1] 67)).alloc (.cells #[.slice (some ⟨w.heap.size + 1, 0, none⟩) 1 1, .int .i64 9, .int .i64 1] 70)
theorem one_at' {W W' : World} {c : Array Value} {t : TypeId} {fr : Nat × Nat} {n : Nat} (hn : W.heap.size = n) (hb : Below (W.alloc (.cells c t fr)).heap.size (W.alloc (.cells c t fr)) W') : ∀ i, W'.cell? ⟨n, i, none⟩ = c[i]? := by
  subst hn
  have hl : W.heap.size < (W.alloc (.cells c t fr)).heap.size := by simp
  have hh := (hb.block _ hl).trans (World.alloc_heap_new W (.cells c t fr))
  exact fun i => cell_of_row W' W.heap.size i c t fr hh
theorem w40_is (w : World) : Below w.heap.size w (w40 w) ∧ (w40 w).heap.size = w.heap.size + 3 ∧ TRow (w40 w) (.slice (some ⟨w.heap.size + 1, 0, none⟩) 1 1) [ten0] ∧ (w40 w).cell? ⟨w.heap.size + 2, 0, none⟩ = some (.slice (some ⟨w.heap.size + 1, 0, none⟩) 1 1) ∧ (w40 w).cell? ⟨w.heap.size + 2, 1, none⟩ = some (.int .i64 9) ∧ (w40 w).cell? ⟨w.heap.size + 2, 2, none⟩ = some (.int .i64 1) := by
  have e0 := one_at' (W := w) (c := #[.int .u8 107]) (t := 5) (fr := (1, 2)) (n := w.heap.size) rfl (bt (b_alloc _ (.cells #[.string ⟨#[97]⟩, .slice (some ⟨w.heap.size, 0, none⟩) 1 1] 67)) (b_alloc _ (.cells #[.slice (some ⟨w.heap.size + 1, 0, none⟩) 1 1, .int .i64 9, .int .i64 1] 70)))
  have e1 := one_at' (W := w.alloc (.cells #[.int .u8 107] 5 (1, 2))) (c := #[.string ⟨#[97]⟩, .slice (some ⟨w.heap.size, 0, none⟩) 1 1]) (t := 67) (fr := (0, 0)) (n := w.heap.size + 1) (by simp) (b_alloc _ (.cells #[.slice (some ⟨w.heap.size + 1, 0, none⟩) 1 1, .int .i64 9, .int .i64 1] 70))
  have e2 := one_at' (W := (w.alloc (.cells #[.int .u8 107] 5 (1, 2))).alloc (.cells #[.string ⟨#[97]⟩, .slice (some ⟨w.heap.size, 0, none⟩) 1 1] 67)) (c := #[.slice (some ⟨w.heap.size + 1, 0, none⟩) 1 1, .int .i64 9, .int .i64 1]) (t := 70) (fr := (0, 0)) (n := w.heap.size + 2) (by simp) (Below.refl _ _)
  have hz : (w40 w).heap.size = w.heap.size + 3 := by simp [w40]
  refine ⟨bt (b_alloc _ _) (bt (b_alloc _ _) (b_alloc _ _)), hz, .inr ⟨w.heap.size + 1, 0, 1, rfl, Nat.le_refl _, fun i t ht => ?_⟩, e2 0, e2 1, e2 2⟩
  have hi : i < 1 := by simpa using (List.getElem?_eq_some_iff.1 ht).1
  obtain rfl : i = 0 := by omega
  cases Option.some.inj ht
  refine ⟨e1 0, _, e1 1, .inr ⟨w.heap.size, 0, 1, rfl, by decide, by decide, by unfold maxLen; decide, by show _ < (w40 w).heap.size; omega, fun i hi => ?_⟩⟩
  have hi' : i < 1 := hi
  obtain rfl : i = 0 := by omega
  exact e0 0
/-- Whatever text: nothing is told beside an error, or a script is. -/
theorem read_any (s : ByteArray) (hs : s.size ≤ 100000) (w : World) (e : Ending) (w' : World) (h : ReadPost s w e w') : Below w.heap.size w w' ∧ ((∃ k : Nat, e = .returned (.tuple #[setV (.slice none 0 0) 0 0, .slice none 0 0, .int .i64 (k : Int), .int .i64 2])) ∨
    (∃ (a a' : Option Addr) (n c n' c' : Nat) (cap sess : Int), e = .returned (.tuple #[setV (.slice a n c) cap sess, .slice a' n' c', .int .i64 0, .int .i64 0]) ∧ ∀ W, Below w'.heap.size w' W → Calls Try.prog 42 #[setV (.slice a n c) cap sess, .slice a' n' c'] W fun r W' => r = .returned (.bool true) ∧ Below W.heap.size W W')) := by
  obtain ⟨hb, h⟩ := h
  refine ⟨hb, ?_⟩
  rcases h with ⟨k, _, rfl⟩ | ⟨xs, st, vt, ve, hx, hf, hc, ht, he, rfl⟩
  · exact .inl ⟨k, rfl⟩
  · obtain ⟨a, c, rfl⟩ := trow_form ht
    obtain ⟨a', c', rfl⟩ := erow_form he
    have hll := lines_len (L s)
    rw [L_len] at hll
    have hxs : ∀ x ∈ xs, x.size ≤ s.size := fun x hxm => by
      have hm : L x ∈ linesOf (L s) := by rw [← hx]; exact List.mem_map.2 ⟨x, hxm, rfl⟩
      have := hll.1 _ hm
      rwa [L_len] at this
    have hxl : xs.length ≤ s.size := by
      have := hll.2
      rw [← hx] at this
      simpa using this
    have hfl := fold_len xs rd0 st hf
    have hfl' : st.tens.length + st.evs.length ≤ xs.length := by simpa [rd0] using hfl
    have hfin := fine_fold s.size xs rd0 st hxs hf (fine0 _)
    have hok := fine_ok s.size (by omega) st hfin
    have hsc : scriptB st.tens st.cap st.sess st.evs = true := by
      unfold scriptB allP
      rw [hc, decide_eq_true hfin.c1, decide_eq_true hfin.s1]
      simp only [Bool.and_true, Bool.true_and, beq_self_eq_true, List.all_eq_true]
      exact fun e he => (hok e he).2
    refine .inr ⟨a, a', _, c, _, c', st.cap, st.sess, rfl, fun W hW => ?_⟩
    have := check42 st.tens st.cap st.sess st.evs _ _ W (ht.below hW) (by omega) (fun t ht => by have := named_size _ (hfin.nm t ht); omega) (he.below hW) (by omega) (fun e he => (hok e he).1)
    rw [hsc] at this
    exact this
theorem read_err (l : List UInt8) (i : Nat) (h1 : ∀ k, ErrAt l k → k = i + 1) (h2 : ∀ ys st', ys.map L = linesOf l → foldO ys rd0 ≠ some st') (w : World) (e : Ending) (w' : World) (h : ReadPost (S l) w e w') : Below w.heap.size w w' ∧ e = .returned (.tuple #[setV (.slice none 0 0) 0 0, .slice none 0 0, .int .i64 ((i + 1 : Nat) : Int), .int .i64 2]) := by
  obtain ⟨hb, h⟩ := h
  refine ⟨hb, ?_⟩
  rcases h with ⟨k, hk, rfl⟩ | ⟨xs, st, vt, ve, hx, hf, _⟩
  · rw [h1 k hk]
  · exact absurd hf (h2 xs st hx)
/-- A line of a script's lines is another one. -/
theorem srow_set {w : World} {base g n cap : Nat} {ls : List (List UInt8)} (hn : n = ls.length) (h : w.ownsRow base 9 1 (.slice (some ⟨g, 0, none⟩) n cap) n (strs ls)) (i : Nat) (hi : i < n) : SRow (w.setCell ⟨g, i, none⟩ (.string (S wWhat))) (.slice (some ⟨g, 0, none⟩) n cap) ((ls.set i wWhat).map S) := by
  refine .inr ⟨g, 0, cap, by simp [hn], fun j hj => ?_⟩
  have hj' : j < n := by simpa [hn] using hj
  have hc : ∀ k, k < n → w.cell? ⟨g, k, none⟩ = (strs ls)[k]? := fun k hk => World.ownsRow.cellAt h k (by omega)
  have hs : ∀ k (hk : k < ls.length), (strs ls)[k]? = some (.string (S ls[k])) := fun k hk => by simp [strs, hk]
  rw [Nat.zero_add]
  by_cases e : i = j
  · subst e
    rw [cset_s ((hc i hi).trans (hs i (by omega)))]
    simp
  · rw [cset_o e, hc j hj', hs j (by omega)]
    simp [e]
set_option maxRecDepth 100000 in
set_option maxHeartbeats 8000000 in
theorem errs_walk (es : List Ev) (ve : Value) (at' : Nat) (s : ByteArray) (w : World) (he : ERow w ve es) (hl : es.length ≤ 1000000000000000) (hb : ∀ e ∈ es, EvBnd e) (ha : at' < 256) (hs : s.size ≤ 1000000000000000) :
    Calls Try.prog 10 #[ve, .int .u8 (at' : Int), .string s] w fun e w' => e = .returned (.bool true) ∧ Below w.heap.size w w' := by
  obtain ⟨a2, c2, rfl⟩ := erow_form he
  obtain ⟨hb0, hz0, ht0, q0, q1, q2⟩ := w40_is w
  have he0 := he.below hb0
  have hrb := reachBytes_lt
  have hlg := large41 es _ (w40 w) he0 hl (fun e he => ⟨by have := (hb e he).tenant; omega, by have := (hb e he).data; omega⟩)
  obtain ⟨B, hB⟩ : ∃ B, B = largeB es := ⟨_, rfl⟩
  rw [← hB] at hlg
  have HB := Lib.hid hB
  have HL := Lib.hid hlg
  have HE := Lib.hid (And.intro he0 hb)
  have HT := Lib.hid ht0
  have HB0 := Lib.hid hb0
  have HZ0 := Lib.hid hz0
  have HAW := Lib.hid awake43
  clear he hb he0 ht0 hb0 hz0 hlg hB hrb
  obtain ⟨n, hN⟩ : ∃ n, n = es.length := ⟨_, rfl⟩
  rw [← hN] at hl HE HL ⊢
  have HN := Lib.hid hN
  clear hN
  have kc := fun (w : World) (C : Array Value) (n c : Nat) => Lib.run_convert_bytes_const (P := Try.prog) w 22 5 C n c Try.underlying22 Try.underlying5
  go_enter Try.func10, Try.ntmps10
  go_wp2_with fail
  clear kc
  refine HL.out.mono ?_
  rintro e w1 ⟨rfl, rfl⟩
  generalize w40 w = W0 at *
  have q0' : W0.cell? ⟨w.heap.size + 1 + 1, 0, none⟩ = some (.slice (some ⟨w.heap.size + 1, 0, none⟩) 1 1) := q0
  have q1' : W0.cell? ⟨w.heap.size + 1 + 1, 1, none⟩ = some (.int .i64 9) := q1
  have q2' : W0.cell? ⟨w.heap.size + 1 + 1, 2, none⟩ = some (.int .i64 1) := q2
  clear q0 q1 q2
  cases B with
  | true =>
    go_wp2_with fail
    refine (HAW.out _).mono ?_
    rintro e w2 ⟨rfl, hb2⟩
    have B2 := Lib.hid hb2
    clear hb2
    go_wp2
    go_ret
    exact ⟨rfl, bt HB0.out B2.out⟩
  | false =>
    have aw : ∀ (W : World), Below W0.heap.size W0 W → Calls Try.prog 43 #[] W fun e w' => e = .returned (.bool true) ∧ Below w.heap.size w w' := fun W hW => (HAW.out W).mono fun e w' h => ⟨h.1, bt HB0.out (bt hW h.2)⟩
    have AW := Lib.hid aw
    clear aw HAW
    by_cases h60 : 60 < n
    · have t1 : decide ((60 : Int) < (n : Int)) = true := decide_eq_true (by omega)
      go_wp2_with fail
      refine (AW.out _ (Below.refl _ _)).mono ?_
      rintro e w2 ⟨rfl, hb2⟩
      go_wp2
      go_ret
      exact ⟨rfl, hb2⟩
    have t1 : decide ((60 : Int) < (n : Int)) = false := decide_eq_false (by omega)
    by_cases h200 : 200 < s.size
    · have t2 : decide ((200 : Int) < (s.size : Int)) = true := decide_eq_true (by omega)
      go_wp2_with fail
      refine (AW.out _ (Below.refl _ _)).mono ?_
      rintro e w2 ⟨rfl, hb2⟩
      go_wp2
      go_ret
      exact ⟨rfl, hb2⟩
    have t2 : decide ((200 : Int) < (s.size : Int)) = false := decide_eq_false (by omega)
    have hsm := (large_small es HB.out.symm).2
    have hok : ∀ e ∈ es, EvOk e := fun e he => ⟨(HE.out.2 e he).fits, by have := (hsm e he).1; omega, by have := (hsm e he).2; omega⟩
    have hck := check42 [ten0] 9 1 es _ _ W0 HT.out (by decide) (fun t ht => by rw [List.mem_singleton.1 ht]; decide) HE.out.1 (by have := HN.out; omega) hok
    obtain ⟨C, hC⟩ : ∃ C, C = scriptB [ten0] 9 1 es := ⟨_, rfl⟩
    rw [← hC] at hck
    have HCK := Lib.hid hck
    have HC := Lib.hid hC
    have HOK := Lib.hid (And.intro hsm hok)
    clear hck hC hsm hok
    simp only [setV] at HCK
    go_wp2_with fail
    refine HCK.out.mono ?_
    rintro e w2 ⟨rfl, hb2⟩
    have B2 := Lib.hid hb2
    have r0 := keep_c hb2 q0'
    have r1 := keep_c hb2 q1'
    have r2 := keep_c hb2 q2'
    clear hb2 q0' q1' q2'
    cases C with
    | false =>
      go_wp2_with fail
      refine (AW.out _ B2.out).mono ?_
      rintro e w3 ⟨rfl, hb3⟩
      go_wp2
      go_ret
      exact ⟨rfl, hb3⟩
    | true =>
      have hscr := HC.out.symm
      unfold scriptB at hscr
      rw [Bool.and_eq_true] at hscr
      have hall : ∀ e ∈ es, Fits e ∧ (printOf e).isSome = true := fun e he => ⟨(HE.out.2 e he).fits, List.all_eq_true.1 hscr.2 e he⟩
      have hnm : ∀ t ∈ [ten0], namedB 16 smallB lowB (L t.name) = true := fun t ht => by rw [List.mem_singleton.1 ht]; exact ten0_named
      have hli := lines44 [ten0] 9 1 es _ _ w2 (HT.out.below B2.out) (by decide) (fun t ht => by rw [List.mem_singleton.1 ht]; decide) (by decide) (by decide) (HE.out.1.below B2.out) (by have := HN.out; omega) HOK.out.2
      have hlen : (linesL [ten0] 9 1 es).length = n + 3 := by rw [HN.out]; simp [linesL]
      have hlt := err_text [ten0] 9 1 es hnm (by decide) (by decide) hall
      rw [hlen] at hli hlt
      have hsum : sum1 (linesL [ten0] 9 1 es) ≤ 90000 := by
        have h1 := evs_sum es (fun e he => ⟨(hall e he).1, (HOK.out.1 e he).1, (hall e he).2⟩)
        have h2 := large_sum es HB.out.symm
        have h3 : sum1 (([ten0].map tenL) ++ [capL 9, sesL 1]) = 34 := by decide +kernel
        unfold linesL
        rw [sum1_app, h3]
        have := HN.out
        omega
      have HLI := Lib.hid hli
      have HLT := Lib.hid hlt
      have HLEN := Lib.hid hlen
      have HSUM := Lib.hid hsum
      clear hli hlt hlen hsum hall hnm hscr
      simp only [setV] at HLI
      generalize linesL [ten0] 9 1 es = ls at *
      go_wp2_with fail
      refine HLI.out.mono ?_
      rintro e w3 ⟨v, rfl, hown, hb3⟩
      obtain ⟨g, cap, rfl, hg0, hg1⟩ := hown.form (by omega)
      have HOWN := Lib.hid hown
      have B3 := Lib.hid hb3
      clear hown hb3
      obtain ⟨m, hm⟩ : ∃ m, m = n + 3 := ⟨_, rfl⟩
      rw [← hm] at HOWN HLT HLEN ⊢
      have hm3 : 3 ≤ m := by omega
      have hm4 : m ≤ 1000 := by omega
      clear hm
      obtain ⟨i, hi⟩ : ∃ i, i = at' % m := ⟨_, rfl⟩
      have him : i < m := by rw [hi]; exact Nat.mod_lt _ (by omega)
      have hrem : (at' : Int).tmod (m : Int) = (i : Int) := by rw [hi]; rfl
      have hm0 : ((m : Int) == 0) = false := by rw [beq_eq_false_iff_ne]; omega
      have wat : IntKind.i64.wrap (at' : Int) = (at' : Int) := IntWalk.i64_in _ (by omega)
      have wi : IntKind.i64.wrap (i : Int) = (i : Int) := IntWalk.i64_in _ (by omega)
      have wi1 : IntKind.i64.wrap ((i : Int) + 1) = (i : Int) + 1 := IntWalk.i64_in _ (by omega)
      have i0 : (0 : Int) ≤ (i : Int) := by omega
      have i1 : (i : Int) < (m : Int) := by omega
      have cg : ∃ u, w3.cell? ⟨g, i, none⟩ = some u := by
        have := World.ownsRow.cellAt HOWN.out i (by omega)
        rw [this]
        have hl := HLEN.out
        exact ⟨_, List.getElem?_eq_getElem (by simp [strs]; omega)⟩
      obtain ⟨u, cg⟩ := cg
      have fg : w3.frozen? ⟨g, i, none⟩ = false := World.ownsRow.frozenAt HOWN.out i
      have hSR := srow_set HLEN.out.symm HOWN.out i him
      have hbs : Below w.heap.size w (w3.setCell ⟨g, i, none⟩ (.string (S wWhat))) := by
        have h0 := bt HB0.out (bt B2.out B3.out)
        refine h0.setCell (p := ⟨g, i, none⟩) ?_ _
        have h1 := HB0.out.size
        have h2 := B2.out.size
        show w.heap.size ≤ g
        omega
      have HSR := Lib.hid hSR
      have HBS := Lib.hid hbs
      have hts : (textL ((ls.set i wWhat).map S) []).length ≤ 100000 := by
        rw [text_sum]
        have h1 := sum1_set ls i wWhat
        have h2 := HSUM.out
        have h3 : wWhat.length = 4 := rfl
        omega
      have HTX := Lib.hid (fun W (h : SRow W (.slice (some ⟨g, 0, none⟩) m cap) ((ls.set i wWhat).map S)) => text46 ((ls.set i wWhat).map S) ⟨#[]⟩ _ W h (by have := HLEN.out; simp; omega) (by show (textL ((ls.set i wWhat).map S) []).length ≤ _; omega))
      have hle := HLT.out i him
      have HRE := Lib.hid (fun W => (read45 (S (textL ((ls.set i wWhat).map S) [])) W (by show (textL ((ls.set i wWhat).map S) []).toArray.size ≤ _; simpa using hts)).mono (read_err _ i hle.1 hle.2 W))
      have HRA := Lib.hid (fun W => (read45 s W (by omega)).mono (read_any s (by omega) W))
      have HSE := Lib.hid same47e
      simp only [setV] at HRE HRA HSE
      rw [show L (⟨#[]⟩ : ByteArray) = [] from rfl] at HTX
      rw [show S wWhat = ⟨#[119, 104, 97, 116]⟩ from rfl] at HSR HBS
      clear hi hSR hbs hts hle HLT HLEN HSUM HOWN HLI hg0 hg1 hm3 hm4 AW r0 r1 r2
      generalize textL ((ls.set i wWhat).map S) [] = tx at *
      generalize (ls.set i wWhat).map S = ls' at *
      go_wp2_with fail
      generalize w3.setCell ⟨g, i, none⟩ (.string ⟨#[119, 104, 97, 116]⟩) = W4 at *
      refine (HTX.out _ HSR.out).mono ?_
      rintro e w5 ⟨rfl, rfl⟩
      go_wp2_with fail
      refine (HRE.out _).mono ?_
      rintro e w5 ⟨hb5, rfl⟩
      have B5 := Lib.hid (bt HBS.out hb5)
      have e1 : ((i + 1 : Nat) : Int) = (i : Int) + 1 := by omega
      rw [e1]
      clear hb5 e1 cg fg
      go_wp2_with fail
      refine (HRA.out _).mono ?_
      rintro e w6 ⟨hb6, h6⟩
      have B6 := Lib.hid (bt (bt B5.out (b_alloc _ _)) hb6)
      clear hb6
      rcases h6 with ⟨k, rfl⟩ | ⟨a, a', n1, c1, n2, c2', cap2, sess2, rfl, h42⟩
      · go_wp2_with fail
        refine (HSE.out _).mono ?_
        rintro e w7 ⟨rfl, hb7⟩
        have B7 := Lib.hid (bt (bt B6.out (b_alloc _ _)) hb7)
        clear hb7
        go_wp2_with fail
        refine (awake43 _).mono ?_
        rintro e w8 ⟨rfl, hb8⟩
        have B8 := Lib.hid (bt B7.out hb8)
        clear hb8
        go_wp2
        go_ret
        exact ⟨rfl, B8.out⟩
      · have H42 := Lib.hid h42
        clear h42
        go_wp2_with fail
        refine (H42.out _ (b_alloc _ _)).mono ?_
        rintro e w7 ⟨rfl, hb7⟩
        have B7 := Lib.hid (bt (bt B6.out (b_alloc _ _)) hb7)
        clear hb7
        go_wp2_with fail
        refine (awake43 _).mono ?_
        rintro e w8 ⟨rfl, hb8⟩
        have B8 := Lib.hid (bt B7.out hb8)
        clear hb8
        go_wp2
        go_ret
        exact ⟨rfl, B8.out⟩
end Go.Proofs.Ytinabbdecmjcpaa.Script
