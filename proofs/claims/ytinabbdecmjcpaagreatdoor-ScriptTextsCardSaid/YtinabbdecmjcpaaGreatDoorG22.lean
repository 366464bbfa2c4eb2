/- The walk of the law ScriptTexts: for every setup, every list of events and every number the law returns true. A setup that came in by value: what is known of it, read off the row's premise. -/
import Derived.Deep.SlicePairs
import Derived.Lib.SmallJoins
import Derived.Test.YtinabbdecmjcpaaGreatDoorGTextWalk
import Derived.Test.YtinabbdecmjcpaaGreatDoorG20
import Derived.Test.YtinabbdecmjcpaaGreatDoorG10
import Derived.Test.YtinabbdecmjcpaaGreatDoorG17
import Derived.Test.YtinabbdecmjcpaaGreatDoorGReadA
namespace Go.Proofs.YtinabbdecmjcpaaGreatDoor.Script
open Go.RowKit Go.Deep Go.Proofs.YtinabbdecmjcpaaGreatDoor Go.Proofs.YtinabbdecmjcpaaGreatDoor.Plain Go.Proofs.YtinabbdecmjcpaaGreatDoor.Words Go.Proofs.YtinabbdecmjcpaaGreatDoor.Named Go.Proofs.YtinabbdecmjcpaaGreatDoor.Hex Go.Proofs.YtinabbdecmjcpaaGreatDoor.Number Go.Proofs.YtinabbdecmjcpaaGreatDoor.Queue Go.Proofs.YtinabbdecmjcpaaGreatDoor.Line Go.Proofs.YtinabbdecmjcpaaGreatDoor.Ev
set_option linter.unusedVariables false

theorem EvBnd.fits2 {e : Ev} (h : EvBnd e) : Fits2 e := ⟨h.fits, h.session.1, h.stream.1, h.m.1⟩
/-- What is known of a script that is not large. -/
structure Sc (ts : List Ten) (es : List Ev) : Prop where
  tn : ts.length ≤ 20
  ts : ∀ t ∈ ts, SmallT t
  en : es.length ≤ 60
  sm : ∀ e ∈ es, e.tenant.size ≤ 100 ∧ e.data.length ≤ 5000
  sum : dsum es ≤ 5000
  bd : ∀ e ∈ es, EvBnd e
theorem Sc.ok {ts : List Ten} {es : List Ev} (h : Sc ts es) : ∀ e ∈ es, EvOk e := fun e he => ⟨(h.bd e he).fits, by have := (h.sm e he).1; omega, by have := (h.sm e he).2; omega⟩
theorem Sc.evs {ts : List Ten} {es : List Ev} (h : Sc ts es) : EvsOk es := fun e he => ⟨(h.bd e he).fits2, h.ok e he⟩
theorem srow_b {w w' : World} {v : Value} {ls : List ByteArray} (hb : Below w.heap.size w w') (h : SRow w v ls) : SRow w' v ls := by
  rcases h with h | ⟨g, o, cap, rfl, h⟩
  · exact .inl h
  · exact .inr ⟨g, o, cap, rfl, fun i hi => keep_c hb (h i hi)⟩
set_option maxRecDepth 100000 in
set_option maxHeartbeats 8000000 in
theorem texts_walk (ts : List Ten) (cap sess : Int) (es : List Ev) (vt ve : Value) (bt' : Nat) (w : World) (ht : TRow w vt ts) (hnt : ts.length ≤ 1000000000000000) (he : ERow w ve es) (hl : es.length ≤ 1000000000000000) (hb : ∀ e ∈ es, EvBnd e)
    (hc1 : cap ≤ 9223372036854775807) (hs1 : sess ≤ 9223372036854775807) (hbt : bt' < 256) (hT : Tab w) :
    Calls Tryz.prog 3 #[setV vt cap sess, ve, .int .u8 (bt' : Int)] w fun e w' => e = .returned (.bool true) ∧ Below w.heap.size w w' := by
  obtain ⟨a1, c1, rfl⟩ := trow_form ht
  obtain ⟨a2, c2, rfl⟩ := erow_form he
  obtain ⟨w0, hw0⟩ : ∃ w0, w0 = w.alloc (.cells #[.slice a1 ts.length c1, .int .i64 cap, .int .i64 sess] 24) := ⟨_, rfl⟩
  have hb0 : Below w.heap.size w w0 := by rw [hw0]; exact b_alloc _ _
  have hX0 : C3 w0 w.heap.size (.slice a1 ts.length c1) (.int .i64 cap) (.int .i64 sess) := by rw [hw0]; exact C3.new _ _ _ _ _
  have hrb := reachBytes_lt
  have hlg := large41 es _ w0 (he.below hb0) hl (fun e he => ⟨by have := (hb e he).tenant; omega, by have := (hb e he).data; omega⟩)
  have hlt := large23 ts _ w0 (ht.below hb0) hnt
  obtain ⟨B, hB⟩ : ∃ B, B = largeB es := ⟨_, rfl⟩
  rw [← hB] at hlg
  have HB := Lib.hid hB
  have HL := Lib.hid hlg
  have HLT := Lib.hid hlt
  have HE := Lib.hid (And.intro (he.below hb0) hb)
  have HT := Lib.hid (ht.below hb0)
  have HB0 := Lib.hid hb0
  have HTB := Lib.hid (tab_keep hT hb0)
  have X0 := Lib.hid hX0
  have aw : ∀ (W : World), Below w0.heap.size w0 W → Calls Tryz.prog 6 #[] W fun e w' => e = .returned (.bool true) ∧ Below w.heap.size w w' := fun W hW => (awake43 W).mono fun e w' h => ⟨h.1, bt hb0 (bt hW h.2)⟩
  have AW := Lib.hid aw
  obtain ⟨nt, hNT⟩ : ∃ n, n = ts.length := ⟨_, rfl⟩
  obtain ⟨ne, hNE⟩ : ∃ n, n = es.length := ⟨_, rfl⟩
  rw [← hNT] at HT HLT X0 hw0 hX0 ⊢
  rw [← hNE] at HE HL ⊢
  have HN := Lib.hid (And.intro hNT hNE)
  have x0 := hX0.c0
  have hle : ne ≤ 1000000000000000 := by omega
  clear ht he hb hb0 hX0 hlg hlt hB hrb hT aw hNT hNE hnt hl
  rw [hw0] at x0 HL HLT
  cases B with
  | true =>
    rw [hw0] at AW
    clear hw0 HE HT X0
    go_enter Tryz.func3, Tryz.ntmps3
    go_wp2_with (first | (go_at_call 4; refine HL.out.mono ?_; rintro e w1 ⟨rfl, rfl⟩) | (go_at_call 6; refine (AW.out _ (Below.refl _ _)).mono ?_; rintro e w2 ⟨rfl, hb2⟩))
    go_ret
    exact ⟨rfl, hb2⟩
  | false =>
    by_cases h60 : 60 < ne
    · have t1 : decide ((60 : Int) < (ne : Int)) = true := decide_eq_true (by omega)
      rw [hw0] at AW
      clear hw0 HE HT X0
      go_enter Tryz.func3, Tryz.ntmps3
      go_wp2_with (first | (go_at_call 4; refine HL.out.mono ?_; rintro e w1 ⟨rfl, rfl⟩) | (go_at_call 6; refine (AW.out _ (Below.refl _ _)).mono ?_; rintro e w2 ⟨rfl, hb2⟩))
      go_ret
      exact ⟨rfl, hb2⟩
    have t1 : decide ((60 : Int) < (ne : Int)) = false := decide_eq_false (by omega)
    go_enter Tryz.func3, Tryz.ntmps3
    go_wp2_with fail
    refine HL.out.mono ?_
    rintro e w1 ⟨rfl, rfl⟩
    go_wp2_with fail
    refine HLT.out.mono ?_
    rintro e w1 ⟨LB, rfl, rfl, hLB⟩
    have HLB := Lib.hid hLB
    clear hLB x0 HLT HL
    rw [← hw0]
    clear hw0
    cases LB with
    | true =>
      go_wp2_with (go_at_call 6; refine (AW.out _ (Below.refl _ _)).mono ?_; rintro e w2 ⟨rfl, hb2⟩)
      go_ret
      exact ⟨rfl, hb2⟩
    | false =>
      have hsc : Sc ts es := ⟨(HLB.out rfl).1, (HLB.out rfl).2, by have := HN.out.2; omega, (large_small es HB.out.symm).2, large_sum es HB.out.symm, HE.out.2⟩
      have SC := Lib.hid hsc
      clear hsc HLB HB
      obtain ⟨y0, y1, y2, yf⟩ := X0.out
      clear yf
      have hst : ∀ t ∈ ts, t.name.size ≤ 1000000000000 := fun t ht => by have := (SC.out.ts t ht).1; omega
      have HTX := Lib.hid (text7 ts cap sess es (.slice a1 nt c1) (.slice a2 ne c2) w0 HT.out (by have := SC.out.tn; omega) hst HE.out.1 (by have := SC.out.en; omega) SC.out.evs hc1 hs1 HTB.out)
      have HCK := Lib.hid (fun (W : World) (hW : Below w0.heap.size w0 W) => check42 ts cap sess es (.slice a1 nt c1) (.slice a2 ne c2) W (HT.out.below hW) (by have := SC.out.tn; omega) hst (HE.out.1.below hW) (by have := SC.out.en; omega) SC.out.ok)
      obtain ⟨sb, hsb⟩ : ∃ sb, scriptB ts cap sess es = sb := ⟨_, rfl⟩
      unfold TextPost at HTX
      rw [hsb] at HTX HCK
      have HSB := Lib.hid hsb
      clear hsb hst hle h60 t1
      cases sb with
      | false =>
        simp only [Bool.false_eq_true, if_false, setV] at HTX HCK
        go_wp2_with fail
        refine HTX.out.mono ?_
        rintro e w2 ⟨rfl, hb2⟩
        have z0 := keep_c hb2 y0
        have z1 := keep_c hb2 y1
        have z2 := keep_c hb2 y2
        have B2 := Lib.hid hb2
        clear hb2 y0 y1 y2 HTX
        go_wp2_with fail
        refine (HCK.out _ B2.out).mono ?_
        rintro e w3 ⟨rfl, hb3⟩
        have B3 := Lib.hid (bt B2.out hb3)
        clear hb3 z0 z1 z2
        go_wp2_with (go_at_call 6; refine (AW.out _ B3.out).mono ?_; rintro e w4 ⟨rfl, hb4⟩)
        go_ret
        exact ⟨rfl, hb4⟩
      | true =>
        have hpt := scriptB_parts HSB.out
        have hz := checkS_zero ts cap sess hpt.1
        obtain ⟨cn, hcv⟩ : ∃ cn : Nat, (cn : Int) = cap := ⟨cap.toNat, by omega⟩
        obtain ⟨sn, hsv⟩ : ∃ sn : Nat, (sn : Int) = sess := ⟨sess.toNat, by omega⟩
        have hcn : cn ≤ 2147483647 := by omega
        have hsn : sn ≤ 2147483647 := by omega
        have hls := lines_sum ts cn sn es hz.1 hz.2.1 (by omega) (by omega) SC.out.en (fun e he => ⟨(SC.out.bd e he).fits, (SC.out.sm e he).1, hpt.2.2.2 e he⟩) SC.out.sum
        have hli := fun (W : World) (hW : Below w0.heap.size w0 W) => lines44 ts cn sn es (.slice a1 nt c1) (.slice a2 ne c2) W (HT.out.below hW) (by omega) (fun t ht => ⟨by have := (SC.out.ts t ht).1; omega, by have := (SC.out.ts t ht).2; omega⟩) hcn hsn (HE.out.1.below hW) (by have := SC.out.en; omega) SC.out.ok
        rw [hcv, hsv] at hli
        have hro := fun (k : Nat) => read_ok ts cn sn es k (fun t ht => (hz.2.1 t ht).1) hcn hsn (fun e he => ⟨(SC.out.bd e he).fits, hpt.2.2.2 e he⟩) (by rw [hcv, hsv]; exact hpt.1)
        rw [hcv, hsv] at hro
        rw [show cap.toNat = cn by omega, show sess.toNat = sn by omega] at HTX
        simp only [if_true, setV] at HTX HCK hli
        have HLI : Hid (∀ (W : World), Below w0.heap.size w0 W → Calls Tryz.prog 9 #[.agg #[.slice a1 nt c1, .int .i64 cap, .int .i64 sess], .slice a2 ne c2] W fun r w' => ∃ v, r = .returned v ∧ w'.ownsRow W.heap.size 9 1 v (linesL ts cn sn es).length (strs (linesL ts cn sn es)) ∧ Below W.heap.size W w') := Lib.hid hli
        have HRO := Lib.hid hro
        have HLS := Lib.hid hls
        have HS40 := Lib.hid (fun (W : World) (v1 : Value) (h1 : TRow W v1 ts) (hW : Below w0.heap.size w0 W) => same40 ts cap sess v1 (.slice a1 nt c1) W h1 (HT.out.below hW) (by omega) (fun t ht => by have := (SC.out.ts t ht).2; omega))
        have HL13 := Lib.hid (fun (W : World) (v1 : Value) (h1 : ERow W v1 es) (hW : Below w0.heap.size w0 W) => lists13 es v1 (.slice a2 ne c2) W h1 (HE.out.1.below hW) (by have := SC.out.en; omega) (fun e he => by have := (SC.out.sm e he).2; omega))
        clear hpt hz hcv hsv hcn hsn hls hli hro
        generalize linesL ts cn sn es = ls at *
        obtain ⟨kk, hkk⟩ : ∃ kk, kk = bt' % 3 := ⟨_, rfl⟩
        have hk3 : kk < 3 := by omega
        have hrem : (bt' : Int).tmod 3 = (kk : Int) := by rw [hkk]; rfl
        clear hkk
        go_wp2_with fail
        refine HTX.out.mono ?_
        rintro e w2 ⟨rfl, hb2⟩
        have z0 := keep_c hb2 y0
        have z1 := keep_c hb2 y1
        have z2 := keep_c hb2 y2
        have B2 := Lib.hid hb2
        clear hb2 y0 y1 y2 HTX
        go_wp2_with fail
        refine (HCK.out _ B2.out).mono ?_
        rintro e w3 ⟨rfl, hb3⟩
        have u0 := keep_c hb3 z0
        have u1 := keep_c hb3 z1
        have u2 := keep_c hb3 z2
        have B3 := Lib.hid (bt B2.out hb3)
        clear hb3 z0 z1 z2
        go_wp2_with fail
        refine (HLI.out _ B3.out).mono ?_
        rintro e w4 ⟨v, rfl, hown, hb4⟩
        have q0 := keep_c hb4 u0
        have q1 := keep_c hb4 u1
        have q2 := keep_c hb4 u2
        have B4 := Lib.hid (bt B3.out hb4)
        have SR := Lib.hid (srow_own rfl hown)
        clear hb4 u0 u1 u2 hown HLI HCK
        have hlen : ∀ k, (textL (ls.map S) (behind k)).length ≤ 100000 := fun k => by
          have h1 := text_len_b (behind k) ls
          have h2 := behind_len k
          have h3 := Nat.mul_le_mul_left ls.length h2
          have h4 := HLS.out
          omega
        have htext : ∀ k, Calls Tryz.prog 11 #[v, .string (S (behind k))] w4 fun e w' => e = .returned (.string (S (textL (ls.map S) (behind k)))) ∧ w4 = w' := fun k =>
          text46 (ls.map S) (S (behind k)) v w4 SR.out (by rw [List.length_map]; have := HLS.out; omega) (by have := hlen k; show (textL (ls.map S) (behind k)).length ≤ _; omega)
        have HLEN := Lib.hid hlen
        have HTX := Lib.hid htext
        clear hlen htext
        rcases (by omega : kk = 0 ∨ kk = 1 ∨ kk = 2) with rfl | rfl | rfl
        case' inl =>
          go_wp2_with fail
          refine (HTX.out 0).mono ?_
          rintro e w5 ⟨rfl, rfl⟩
          have hro := Lib.hid (HRO.out 0)
          have hln := Lib.hid (HLEN.out 0)
          have hzz := Lib.hid (HTX.out 0)
          generalize textL (ls.map S) (behind 0) = tb at *
        case' inr.inl =>
          go_wp2_with fail
          refine (HTX.out 1).mono ?_
          rintro e w5 ⟨rfl, rfl⟩
          have hro := Lib.hid (HRO.out 1)
          have hln := Lib.hid (HLEN.out 1)
          have hzz := Lib.hid (HTX.out 1)
          generalize textL (ls.map S) (behind 1) = tb at *
        case' inr.inr =>
          go_wp2_with fail
          refine (HTX.out 2).mono ?_
          rintro e w5 ⟨rfl, rfl⟩
          have hro := Lib.hid (HRO.out 2)
          have hln := Lib.hid (HLEN.out 2)
          have hzz := Lib.hid (HTX.out 2)
          generalize textL (ls.map S) (behind 2) = tb at *
        all_goals
          clear hk3 hrem HRO hzz
          have HT0 : Hid (∀ W, Below w4.heap.size w4 W → Calls Tryz.prog 11 #[v, .string ⟨#[]⟩] W fun e w' => e = .returned (.string (S (tx ls))) ∧ W = w') := Lib.hid fun W hW => text46 (ls.map S) (S []) v W (srow_b hW SR.out) (by rw [List.length_map]; have := HLS.out; omega) (by have := HLEN.out 0; show (textL (ls.map S) (behind 0)).length ≤ _; omega)
          clear HLEN HTX
          generalize hTXT : S (tx ls) = txt at *
          clear hTXT
          go_wp2_with fail
          refine ((read45 (S tb) w4 (by exact hln.out)).mono fun e w' h => hro.out w4 e w' h).mono ?_
          rintro e w6 ⟨hb6, vt', ve', rfl, ht', he'⟩
          obtain ⟨a3, c3, rfl⟩ := trow_form ht'
          obtain ⟨a4, c4, rfl⟩ := erow_form he'
          rw [← HN.out.1] at ht' ⊢
          rw [← HN.out.2] at he' ⊢
          have q0 := keep_c hb6 q0
          have q1 := keep_c hb6 q1
          have q2 := keep_c hb6 q2
          have B6 := Lib.hid (bt B4.out hb6)
          have HB6 := Lib.hid hb6
          have HT6 := Lib.hid ht'
          have HE6 := Lib.hid he'
          clear hb6 ht' he' hro hln
          go_wp2_with fail
          refine (HT0.out _ (bt HB6.out (b_alloc _ _))).mono ?_
          rintro e w7 ⟨rfl, rfl⟩
          have hb7 := b_alloc w6 (.cells #[.slice a3 nt c3, .int .i64 cap, .int .i64 sess] 24)
          obtain ⟨r0, r1, r2, rf⟩ := C3.new w6 (.slice a3 nt c3) (.int .i64 cap) (.int .i64 sess) 24
          have q0 := keep_c hb7 q0
          have q1 := keep_c hb7 q1
          have q2 := keep_c hb7 q2
          have B7 := Lib.hid (bt B6.out hb7)
          have HT7 := Lib.hid (HT6.out.below hb7)
          have HE7 := Lib.hid (HE6.out.below hb7)
          clear rf hb7 HT0 HT6 HE6 B6 HB6
          generalize w6.alloc (.cells #[.slice a3 nt c3, .int .i64 cap, .int .i64 sess] 24) = w7 at *
          have tq : (txt.toList == txt.toList) = true := beq_self_eq_true _
          have tq3 : (txt.data.toList == txt.data.toList) = true := by simp
          go_wp2_with fail
          refine (HS40.out w7 _ HT7.out B7.out).mono ?_
          rintro e w8 ⟨rfl, hb8⟩
          have HE8 := Lib.hid (HE7.out.below hb8)
          have B8 := Lib.hid (bt B7.out hb8)
          clear hb8 q0 q1 q2 r0 r1 r2
          go_wp2_with fail
          refine (HL13.out w8 _ HE8.out B8.out).mono ?_
          rintro e w9 ⟨rfl, hb9⟩
          have B9 := Lib.hid (bt B8.out hb9)
          clear hb9
          go_wp2_with (go_at_call 6; refine (AW.out _ B9.out).mono ?_; rintro e w10 ⟨rfl, hb10⟩)
          go_ret
          exact ⟨rfl, hb10⟩
end Go.Proofs.YtinabbdecmjcpaaGreatDoor.Script

namespace Go.Proofs.YtinabbdecmjcpaaGreatDoor.Script
open Go.RowKit Go.Proofs.YtinabbdecmjcpaaGreatDoor Go.Proofs.YtinabbdecmjcpaaGreatDoor.Plain Go.Proofs.YtinabbdecmjcpaaGreatDoor.Words Go.Proofs.YtinabbdecmjcpaaGreatDoor.Named Go.Proofs.YtinabbdecmjcpaaGreatDoor.Hex Go.Proofs.YtinabbdecmjcpaaGreatDoor.Number Go.Proofs.YtinabbdecmjcpaaGreatDoor.Queue Go.Proofs.YtinabbdecmjcpaaGreatDoor.Line Go.Proofs.YtinabbdecmjcpaaGreatDoor.Ev
open Go.ChangeShapes Go.WideShapes Go.ChangeAt Go.Deep
set_option linter.unusedVariables false

theorem list3 {α : Type} {l : List α} (h : l.length = 3) : ∃ a b c, l = [a, b, c] := by
  match l, h with
  | [a, b, c], _ => exact ⟨a, b, c, rfl⟩
section
variable {H : Type} {enc : TypeId × Value → H} {W : World} {base : Nat} {spare : Nat → Bool} {held : Bool}
theorem open_tenants {fuel : Nat} {v : Value} {x : DataW H × List MemPlace} (h : DataW.trod enc Tryz.prog W base spare held fuel 22 [v] = some x) (hw : ∀ n ∈ x.1.weights Tryz.prog 22, n ≤ reachBytes) : ∃ ts : List Ten, TRow W v ts ∧ ts.length ≤ reachBytes := by
  rcases open_slice_pairs Tryz.underlying22 Tryz.underlying46 (by kernel_rfl) rfl rfl (by kernel_rfl) (by kernel_rfl) h with ⟨hcs, _⟩ | ⟨a, len0, cap0, m, n, V0, V1, D0, D1, P0, P1, hcs, _, hl, hm, hmm, hxx, hel⟩
  · have hv : v = .slice none 0 0 := by simpa using hcs
    subst hv
    exact ⟨[], .inl ⟨rfl, _, _, rfl⟩, Nat.zero_le _⟩
  · have hv : v = .slice (some a) len0 cap0 := by simpa using hcs
    subst hv
    have hlm : len0 ≤ m := by rw [hmm]; split <;> omega
    have hlr : len0 ≤ reachBytes := by
      have h1 := hw _ (by rw [hxx]; exact weights_len Tryz.underlying22)
      rw [show Tryz.prog.bytesOf 46 = 40 by kernel_rfl] at h1
      simp at h1
      omega
    by_cases h0 : len0 = 0
    · subst h0
      exact ⟨[], .inl ⟨rfl, _, _, rfl⟩, Nat.zero_le _⟩
    obtain ⟨g, o, spot⟩ := a
    have key : ∀ i, i < len0 → ∃ (t : Ten) (dv : Value), CRow W dv t.key ∧ W.cell? ((⟨g, o, spot⟩ : Addr).add (i * 2)) = some (.string t.name) ∧ W.cell? ((⟨g, o, spot⟩ : Addr).add (i * 2 + 1)) = some dv := by
      intro i hi
      obtain ⟨b0, b1, g0, g1⟩ := hel i (by omega)
      obtain ⟨k3, e3, _, _⟩ := DataW.trod_string Tryz.underlying9 (show DataW.trod enc Tryz.prog W base spare held n 9 [V0 i] = some (D0 i, P0 i) from g0)
      obtain ⟨l, hrow, _⟩ := open_bytes (show DataW.trod enc Tryz.prog W base spare held n 42 [V1 i] = some (D1 i, P1 i) from g1)
      have e4 : V0 i = .string k3 := by simpa using e3
      rw [e4] at b0
      exact ⟨⟨k3, l⟩, V1 i, hrow, b0, b1⟩
    obtain ⟨_, _, _, a0, _⟩ := key 0 (by omega)
    have hspot : spot = none := by simpa [Addr.add] using World.cell?_spot a0
    subst hspot
    have key2 : ∀ i : Fin len0, ∃ t : Ten, TenAt W g o i.val t := fun i => by
      obtain ⟨t, dv, hr, b0, b1⟩ := key i.val i.isLt
      rw [addr_add] at b0 b1
      exact ⟨t, b0, dv, b1, hr⟩
    refine ⟨List.ofFn fun i => Classical.choose (key2 i), .inr ⟨g, o, cap0, by simp, by simpa using hl, fun i t ht => ?_⟩, by simpa using hlr⟩
    obtain ⟨hi, he⟩ := List.getElem?_eq_some_iff.1 ht
    have hi' : i < len0 := by simpa using hi
    rw [List.getElem_ofFn] at he
    rw [← he]
    exact Classical.choose_spec (key2 ⟨i, hi'⟩)
set_option maxRecDepth 100000 in
theorem open_setup {E : TypeId} {r : Reach} {b0 : Nat} {f0 f1 f2 : Field} (hE : Tryz.prog.underlying E = some (.struct #[f0, f1, f2])) (hC : Tryz.prog.cellsOf E = 3)
    (t0 : f0.type = 22) (t1 : f1.type = 3) (t2 : f2.type = 3) (o0 : f0.offset = 0) (o1 : f1.offset = 1) (o2 : f2.offset = 2)
    {v : Value} {d : DataW H} {p : List MemPlace} (hv : Value.okWide Tryz.prog W r b0 E v) (h : DataW.Trod enc Tryz.prog W base spare held E v d p) (hw : ∀ n ∈ d.weights Tryz.prog E, n ≤ reachBytes) :
    ∃ (ts : List Ten) (vt : Value) (cap sess : Int), v = setV vt cap sess ∧ TRow W vt ts ∧ ts.length ≤ reachBytes ∧ cap ≤ 9223372036854775807 ∧ sess ≤ 9223372036854775807 := by
  obtain ⟨cs, rfl, hsz⟩ := okWide_struct hE hv
  obtain ⟨fuel, hf⟩ := h
  obtain ⟨xs, n', _, hxa, hlen, hxl, hf'⟩ := DataW.trod_struct hE hf
  have hDi : d = .agg (xs.map (·.1)) := congrArg Prod.fst hxa
  have hcl : cs.toList.length = 3 := by rw [Array.length_toList, hsz, hC]
  have hcs : (Value.agg cs).cells.toList = cs.toList := rfl
  rw [hcs] at hf'
  obtain ⟨c0, c1, c2, hcc⟩ := list3 hcl
  rw [hcc] at hf'
  have g0 := hf' 0 f0 rfl
  have g1 := hf' 1 f1 rfl
  have g2 := hf' 2 f2 rfl
  rw [t0, o0, show Tryz.prog.cellsOf 22 = 1 by kernel_rfl] at g0
  rw [t1, o1, show Tryz.prog.cellsOf 3 = 1 by kernel_rfl] at g1
  rw [t2, o2, show Tryz.prog.cellsOf 3 = 1 by kernel_rfl] at g2
  obtain ⟨x0, x1, x2, rfl⟩ := list3 hxl
  obtain ⟨k1, e1, _, w1⟩ := DataW.trod_int Tryz.underlying3 (show DataW.trod enc Tryz.prog W base spare held n' 3 [c1] = some x1 from g1)
  obtain ⟨k2, e2, _, w2⟩ := DataW.trod_int Tryz.underlying3 (show DataW.trod enc Tryz.prog W base spare held n' 3 [c2] = some x2 from g2)
  have hag : ∀ n ∈ DataW.weightsEach Tryz.prog [f0.type, f1.type, f2.type] [x0.1, x1.1, x2.1], n ≤ reachBytes := fun n hn => hw n (by rw [hDi]; simp only [DataW.weights, hE]; exact hn)
  obtain ⟨ts, hrow, hlr⟩ := open_tenants (show DataW.trod enc Tryz.prog W base spare held n' 22 [c0] = some x0 from g0) (fun n hn => hag n (DataW.weights_mem_each (j := 0) (t := f0.type) (d := x0.1) rfl rfl n (by rw [t0]; exact hn)))
  simp at e1 e2
  subst e1 e2
  refine ⟨ts, c0, k1, k2, ?_, hrow, hlr, (bounds_i64 w1).2, (bounds_i64 w2).2⟩
  have hca : cs = #[c0, .int .i64 k1, .int .i64 k2] := by
    apply Array.toList_inj.1
    rw [hcc]
  rw [hca]
end
end Go.Proofs.YtinabbdecmjcpaaGreatDoor.Script
