/- The contracts of event's write, Check and Print: an event's line, told just where the event may be. -/
import Derived.Test.YtinabbdecmjcpaaGreatDoorG13
import Derived.Test.YtinabbdecmjcpaaGreatDoorGEvEqual
import Derived.Test.YtinabbdecmjcpaaGreatDoorGEvParse
namespace Go.Proofs.YtinabbdecmjcpaaGreatDoor.Ev
open Go.RowKit Go.Proofs.YtinabbdecmjcpaaGreatDoor Go.Proofs.YtinabbdecmjcpaaGreatDoor.Plain Go.Proofs.YtinabbdecmjcpaaGreatDoor.Words Go.Proofs.YtinabbdecmjcpaaGreatDoor.Named Go.Proofs.YtinabbdecmjcpaaGreatDoor.Hex Go.Proofs.YtinabbdecmjcpaaGreatDoor.Number Go.Proofs.YtinabbdecmjcpaaGreatDoor.Line
open Go.Lib (decDigits)
set_option linter.unusedVariables false

def EvWritePost (r : Option (List UInt8)) (w : World) (e : Ending) (w' : World) : Prop := e = .returned (.tuple #[.string (S (r.getD [])), .int .i64 (if r.isSome then 0 else 2)]) ∧ Below w.heap.size w w'
theorem chg_drop {x : Nat} {w W W' : World} (h : Below w.heap.size w W) (k : Chg [x] W W') (hx : w.heap.size ≤ x) : Below w.heap.size w W' := h.trans (k.below h.size (by simp; omega))
theorem takes_in {w : World} {g : Nat} {e : Ev} {v : Value} (hv : BRow w v e.data) (hg : g < w.heap.size) : ∀ (ss : List Slot), (∀ k s, ss[k]? = some s → F3 w g k (takeF e s).text (takeF e s).n (dvT v s)) → FIn w (.slice (some ⟨g, 0, none⟩) ss.length ss.length) (ss.map (takeF e)) := fun ss h => by
  refine ⟨g, ss.length, by simp, hg, fun i f hf => ?_⟩
  rw [List.getElem?_map] at hf
  obtain ⟨s, hs, rfl⟩ := Option.map_eq_some_iff.1 hf
  obtain ⟨a, b, c⟩ := h i s hs
  refine ⟨dvT v s, a, b, c, ?_⟩
  cases s <;> first | exact brow_nil _ | exact hv
theorem FIn.below {w w' : World} {v : Value} {fs : List Fld} (h : FIn w v fs) (hb : Below w.heap.size w w') : FIn w' v fs := by
  obtain ⟨g, cap, rfl, hg, hc⟩ := h
  refine ⟨g, cap, rfl, Nat.lt_of_lt_of_le hg hb.size, fun i f hf => ?_⟩
  obtain ⟨d, a, b, c, e⟩ := hc i f hf
  exact ⟨d, keep_c hb a, keep_c hb b, keep_c hb c, brow_below hb e⟩
theorem take_small {e : Ev} (hf : Fits2 e) (ht : e.tenant.size ≤ 1000000) (hd : e.data.length ≤ 1000000) : ∀ ss : List Slot, ∀ f ∈ ss.map (takeF e), Small f := fun ss f h => by
  obtain ⟨s, _, rfl⟩ := List.mem_map.1 h
  have h1 := hf.n
  have h2 := hf.bits
  have h3 := L_len e.tenant
  cases s <;> simp [takeF, Small, u64_lt] <;> omega
theorem zero_data (ss : List Slot) (e : Ev) {w : World} {v : Value} (hv : BRow w v e.data) : BRow w (dvZ ss v) (ss.foldl zeroF e).data := by
  obtain ⟨_, _, _, _, _, _, z7⟩ := zero_cover ss e
  rw [z7]
  unfold dvZ
  by_cases h : Slot.data ∈ ss
  · rw [if_pos h, if_pos h]; exact brow_nil _
  · rw [if_neg h, if_neg h]; exact hv

section
variable (k se st : Int) (tn : ByteArray) (n : Nat) (m : Int) (b : Nat) (av : Option Addr) (ld cv : Nat) (w : World)
set_option maxRecDepth 100000 in
set_option maxHeartbeats 1000000 in
theorem write_out (hk : k < 1 ∨ 15 < k) : Calls Tryz.prog 37 #[.agg #[.int .i64 k, .int .i64 se, .int .i64 st, .string tn, .int .u64 (n : Int), .int .i64 m, .int .u64 (b : Int), .slice av ld cv]] w fun r w' => r = .returned (.tuple #[.string ⟨#[]⟩, .int .i64 2]) ∧ Below w.heap.size w w' := by
  have BA := Lib.hid (box_below k se st tn n m b av ld cv w)
  have HS := Lib.hid (fun W => shapeOut k hk w.heap.size W)
  clear hk
  go_enter Tryz.func37, Tryz.ntmps37
  go_wp2_with (go_at_call 56; refine (HS.out _).mono ?_; rintro e w1 ⟨rfl, hb1⟩; have hs1 := hb1.size; have X1 := Lib.hid hb1; clear hb1)
  go_ret2
  exact ⟨rfl, (BA.out.trans (X1.out.mono BA.out.size)).alloc (by have := BA.out.size; omega) _⟩
end
set_option maxRecDepth 100000 in
set_option maxHeartbeats 400000 in
theorem evwrite_any (e : Ev) (v : Value) (w : World) (hf : Fits2 e) (ht : e.tenant.size ≤ 1000000) (hd : e.data.length ≤ 1000000) (hv : BRow w v e.data) (hT : Tab w) : Calls Tryz.prog 37 #[evV e v] w (EvWritePost (printOf e) w) := by
  obtain ⟨av, cv, rfl⟩ := brow_form hv
  by_cases hk : inR e.kind = true
  rotate_left
  · have hk' : inR e.kind = false := by simpa using hk
    have hp := print_none1 e (.inl hk')
    refine (write_out e.kind e.session e.stream e.tenant e.n e.m e.bits av e.data.length cv w (by simp [inR] at hk'; omega)).mono ?_
    rintro r w' ⟨rfl, hb⟩
    exact ⟨by rw [hp]; rfl, hb⟩
  obtain ⟨j, hj, a1, a2⟩ := inR_nat hk
  have hjn : e.kind.toNat = j := by omega
  have hwp := write_print e hf
  unfold writeOf at hwp
  rw [if_neg (by rw [hk]; simp), hjn] at hwp
  have hs3 := slots_three j
  have htk := fun W => take_any (S (wordN j)) (slotsN j) w.heap.size e (.slice av e.data.length cv) W hs3 (slots_nodup j) ⟨_, _, _, rfl⟩
  have hsh := shape_any j a1 a2 w.heap.size
  obtain ⟨p2, e2⟩ := spN_ptr (sp0 w.heap.size) (sp0_ptr w.heap.size) (slotsN j) 0
  obtain ⟨p3, e3⟩ := spN_ptr (sp1 w.heap.size) (sp1_ptr w.heap.size) (slotsN j) 0
  obtain ⟨p4, e4⟩ := spN_ptr (sp2 w.heap.size) (sp2_ptr w.heap.size) (slotsN j) 0
  obtain ⟨p5, e5⟩ := spN_ptr (sp3 w.heap.size) (sp3_ptr w.heap.size) (slotsN j) 0
  obtain ⟨p6, e6⟩ := spN_ptr (sp0 w.heap.size) (sp0_ptr w.heap.size) (slotsN j) 1
  obtain ⟨p7, e7⟩ := spN_ptr (sp1 w.heap.size) (sp1_ptr w.heap.size) (slotsN j) 1
  obtain ⟨p8, e8⟩ := spN_ptr (sp2 w.heap.size) (sp2_ptr w.heap.size) (slotsN j) 1
  obtain ⟨p9, e9⟩ := spN_ptr (sp3 w.heap.size) (sp3_ptr w.heap.size) (slotsN j) 1
  obtain ⟨p10, e10⟩ := spN_ptr (sp0 w.heap.size) (sp0_ptr w.heap.size) (slotsN j) 2
  obtain ⟨p11, e11⟩ := spN_ptr (sp1 w.heap.size) (sp1_ptr w.heap.size) (slotsN j) 2
  obtain ⟨p12, e12⟩ := spN_ptr (sp2 w.heap.size) (sp2_ptr w.heap.size) (slotsN j) 2
  obtain ⟨p13, e13⟩ := spN_ptr (sp3 w.heap.size) (sp3_ptr w.heap.size) (slotsN j) 2
  rw [e2, e3, e4, e5, e6, e7, e8, e9, e10, e11, e12, e13] at htk
  simp only [e2, e3, e4, e5, e6, e7, e8, e9, e10, e11, e12, e13] at hsh
  clear e2 e3 e4 e5 e6 e7 e8 e9 e10 e11 e12 e13
  have hwl := word_ne j a1 a2
  have hlw := fun W (vv : Value) (h1 : FIn W vv ((slotsN j).map (takeF e))) (h2 : Tab W) => linewrite_any (S (wordN j)) (S (patN j)) vv ((slotsN j).map (takeF e)) W (by show (wordN j).toArray.size ≤ _; simp; omega) (by show (patN j).toArray.size ≤ _; simp; omega) (pat_known j) (by show _ = (patN j).toArray.size; simp [patN]) (take_small hf ht hd _) h1 h2
  rw [show L (S (wordN j)) = wordN j from rfl, show L (S (patN j)) = patN j from rfl] at hlw
  have hti := fun W (g : Nat) (h1 : BRow W (.slice av e.data.length cv) e.data) h2 => takes_in (w := W) (g := g) h1 h2 (slotsN j)
  have hse := fun W (h1 : BRow W (.slice av e.data.length cv) e.data) => sameEv17 ((slotsN j).foldl zeroF e) (ev0 ((slotsN j).foldl zeroF e).kind) (dvZ (slotsN j) (.slice av e.data.length cv)) (.slice none 0 0) W (zero_data _ _ h1) (brow_nil _)
  have hzk := zero_kind (slotsN j) e
  rw [← hzk] at hwp
  rw [← hj] at hsh
  simp only [show (slotsN j).map sign = patN j from rfl] at hsh htk
  obtain ⟨zv, hzv⟩ : ∃ zv, dvZ (slotsN j) (.slice av e.data.length cv) = zv := ⟨_, rfl⟩
  have hzform : ∃ a l c, zv = .slice a l c := by
    rw [← hzv]
    unfold dvZ
    split
    · exact ⟨_, _, _, rfl⟩
    · exact ⟨_, _, _, rfl⟩
  rw [hzv] at hse
  have HTK : Hid (∀ W, EvC W w.heap.size e (.slice av e.data.length cv) → Calls Tryz.prog 57 #[.agg #[.string (S (wordN j)), .string (S (patN j)), .pointer p2, .pointer p3, .pointer p4, .pointer p5, .pointer p6, .pointer p7, .pointer p8, .pointer p9, .pointer p10, .pointer p11, .pointer p12, .pointer p13]] W (TakePost w.heap.size (slotsN j) e (.slice av e.data.length cv) W)) := Lib.hid htk
  have HSH := Lib.hid hsh
  have HLW := Lib.hid hlw
  have HTI := Lib.hid hti
  have HSE := Lib.hid hse
  have HWP := Lib.hid hwp
  have HZV := Lib.hid hzv
  have HV := Lib.hid hv
  have HTT := Lib.hid hT
  have HX := Lib.hid (C8.new w (.int .i64 e.kind) (.int .i64 e.session) (.int .i64 e.stream) (.string e.tenant) (.int .u64 (e.n : Int)) (.int .i64 e.m) (.int .u64 (e.bits : Int)) (.slice av e.data.length cv) 44)
  have BA := Lib.hid (box_below e.kind e.session e.stream e.tenant e.n e.m e.bits av e.data.length cv w)
  have hz : (w.alloc (.cells #[.int .i64 e.kind, .int .i64 e.session, .int .i64 e.stream, .string e.tenant, .int .u64 (e.n : Int), .int .i64 e.m, .int .u64 (e.bits : Int), .slice av e.data.length cv] 44)).heap.size = w.heap.size + 1 := by simp
  have HZ := Lib.hid hz
  clear htk hsh hlw hti hse hwp hzv hv hT hz hwl hs3 hzk ht hd hf hk hj hjn a1 a2
  go_enter Tryz.func37, Tryz.ntmps37
  go_wp2_with fail
  refine (HSH.out _).mono ?_
  rintro r w1 ⟨rfl, hb1⟩
  have X1 := Lib.hid (HX.out.below hb1)
  have B1 := Lib.hid (bt BA.out hb1)
  have l1 : w.heap.size < w1.heap.size := X1.out.lt
  clear hb1 HX BA
  generalize S (wordN j) = wd at *
  generalize S (patN j) = pt at *
  go_wp2_with fail
  have b2 : Below w1.heap.size w1 (w1.alloc (.cells #[.string wd, .string pt, .pointer p2, .pointer p3, .pointer p4, .pointer p5, .pointer p6, .pointer p7, .pointer p8, .pointer p9, .pointer p10, .pointer p11, .pointer p12, .pointer p13] 111)) := (Below.refl _ _).alloc (Nat.le_refl _) _
  have S2 := Lib.hid (C14.new w1 (.string wd) (.string pt) (.pointer p2) (.pointer p3) (.pointer p4) (.pointer p5) (.pointer p6) (.pointer p7) (.pointer p8) (.pointer p9) (.pointer p10) (.pointer p11) (.pointer p12) (.pointer p13) 111)
  have X2 := Lib.hid (X1.out.below b2)
  have B2 := Lib.hid (bt B1.out b2)
  clear b2 X1 B1
  generalize w1.alloc (.cells #[.string wd, .string pt, .pointer p2, .pointer p3, .pointer p4, .pointer p5, .pointer p6, .pointer p7, .pointer p8, .pointer p9, .pointer p10, .pointer p11, .pointer p12, .pointer p13] 111) = W2 at *
  refine (HTK.out _ X2.out).mono ?_
  rintro r w3 ⟨g, rfl, hg, hf3, hz3, hc3⟩
  have B3 := Lib.hid (chg_drop B2.out hc3 (Nat.le_refl _))
  have S3 := Lib.hid (S2.out.chg hc3 (by simp; omega))
  have F3' := Lib.hid (HTI.out w3 g (brow_below B3.out HV.out) hg hf3)
  rw [HZV.out] at hz3
  clear HTI HTK
  generalize (slotsN j).foldl zeroF e = Z at *
  have X3 := Lib.hid hz3
  clear hf3 hz3 hc3 S2 X2 B2
  obtain ⟨s0, s1, s2, s3, s4, s5, s6, s7, s8, s9, s10, s11, s12, s13, sf⟩ := S3.out
  obtain ⟨x0, x1, x2, x3, x4, x5, x6, x7, xf⟩ := X3.out
  obtain ⟨za, zl, zc, rfl⟩ := hzform
  clear sf xf
  have HSEC := HSE.out w3 (brow_below B3.out HV.out)
  have HWP' := HWP.out
  generalize (sameB Z (ev0 Z.kind)) = sb at HSEC HWP'
  have HSQ : Hid (Calls Tryz.prog 58 #[evV Z (.slice za zl zc), evV (ev0 Z.kind) (.slice none 0 0)] w3 fun e w' => e = .returned (.bool sb) ∧ Below w3.heap.size w3 w') := Lib.hid HSEC
  have HW2 := Lib.hid HWP'
  clear HSEC HWP' HSE HWP
  have HTB := Lib.hid (tab_keep HTT.out B3.out)
  cases sb
  · go_wp2_with (go_at_call 58; refine HSQ.out.mono ?_; rintro e w4 ⟨rfl, hb4⟩; have X4 := Lib.hid hb4; clear hb4)
    have hp : printOf e = none := by have := HW2.out; simpa using this.symm
    have HP := Lib.hid hp
    clear hp
    go_ret2
    exact ⟨by rw [HP.out]; rfl, B3.out.trans (X4.out.mono B3.out.size)⟩
  · generalize lineOf (wordN j) (patN j) ((slotsN j).map (takeF e)) = lo at *
    generalize checkOf (words lo) (wordN j) (patN j) = er at *
    have hw2 := HW2.out
    rw [if_neg (by simp)] at hw2
    by_cases her : er = 0
    · have hp : printOf e = some lo := by rw [if_neg (by rw [her]; simp)] at hw2; exact hw2.symm
      have t5 : ((er : Int) != 0) = false := by rw [bne_eq_false_iff_eq]; omega
      have HP := Lib.hid hp
      have HER := Lib.hid her
      clear hp her hw2
      go_wp2_with fail
      refine HSQ.out.mono ?_
      rintro r w4 ⟨rfl, hb4⟩
      obtain ⟨u0, u1, u2, u3, u4, u5, u6, u7, u8, u9, u10, u11, u12, u13, uf⟩ := S3.out.below hb4
      have F4 := Lib.hid (F3'.out.below hb4)
      have T4 := Lib.hid (tab_keep HTB.out hb4)
      have B4 := Lib.hid (bt B3.out hb4)
      clear uf hb4 s0 s1 s2 s3 s4 s5 s6 s7 s8 s9 s10 s11 s12 s13
      go_wp2_with fail
      refine (HLW.out _ _ F4.out T4.out).mono ?_
      rintro r w5 ⟨rfl, hb5⟩
      have B5 := Lib.hid (bt B4.out hb5)
      rw [if_pos HER.out]
      clear hb5
      go_wp2
      go_ret2
      exact ⟨by rw [HP.out]; rfl, B5.out⟩
    · have hp : printOf e = none := by rw [if_pos her] at hw2; exact hw2.symm
      have t5 : ((er : Int) != 0) = true := by rw [bne_iff_ne]; omega
      have HP := Lib.hid hp
      have HER := Lib.hid her
      clear hp her hw2
      go_wp2_with fail
      refine HSQ.out.mono ?_
      rintro r w4 ⟨rfl, hb4⟩
      obtain ⟨u0, u1, u2, u3, u4, u5, u6, u7, u8, u9, u10, u11, u12, u13, uf⟩ := S3.out.below hb4
      have F4 := Lib.hid (F3'.out.below hb4)
      have T4 := Lib.hid (tab_keep HTB.out hb4)
      have B4 := Lib.hid (bt B3.out hb4)
      clear uf hb4 s0 s1 s2 s3 s4 s5 s6 s7 s8 s9 s10 s11 s12 s13
      go_wp2_with fail
      refine (HLW.out _ _ F4.out T4.out).mono ?_
      rintro r w5 ⟨rfl, hb5⟩
      have B5 := Lib.hid (bt B4.out hb5)
      rw [if_neg HER.out]
      clear hb5
      go_wp2
      go_ret2
      exact ⟨by rw [HP.out]; rfl, B5.out⟩

set_option maxRecDepth 100000 in
set_option maxHeartbeats 1000000 in
/-- event's Check. -/
theorem evcheck_any (e : Ev) (v : Value) (w : World) (hf : Fits2 e) (ht : e.tenant.size ≤ 1000000) (hd : e.data.length ≤ 1000000) (hv : BRow w v e.data) (hT : Tab w) : Calls Tryz.prog 20 #[evV e v] w fun r w' => r = .returned (.int .i64 (if (printOf e).isSome then 0 else 2)) ∧ Below w.heap.size w w' := by
  obtain ⟨av, cv, rfl⟩ := brow_form hv
  have hb := box_below e.kind e.session e.stream e.tenant e.n e.m e.bits av e.data.length cv w
  have H : Hid (Calls Tryz.prog 37 #[evV e (.slice av e.data.length cv)] (w.alloc (.cells #[.int .i64 e.kind, .int .i64 e.session, .int .i64 e.stream, .string e.tenant, .int .u64 (e.n : Int), .int .i64 e.m, .int .u64 (e.bits : Int), .slice av e.data.length cv] 44)) fun r w' => r = .returned (.tuple #[.string (S ((printOf e).getD [])), .int .i64 (if (printOf e).isSome then 0 else 2)]) ∧ Below (w.alloc (.cells #[.int .i64 e.kind, .int .i64 e.session, .int .i64 e.stream, .string e.tenant, .int .u64 (e.n : Int), .int .i64 e.m, .int .u64 (e.bits : Int), .slice av e.data.length cv] 44)).heap.size (w.alloc (.cells #[.int .i64 e.kind, .int .i64 e.session, .int .i64 e.stream, .string e.tenant, .int .u64 (e.n : Int), .int .i64 e.m, .int .u64 (e.bits : Int), .slice av e.data.length cv] 44)) w') := Lib.hid (evwrite_any e _ _ hf ht hd (brow_below hb hv) (tab_keep hT hb))
  have HB := Lib.hid hb
  clear hf ht hd hv hT hb
  generalize S ((printOf e).getD []) = so at *
  generalize (if (printOf e).isSome then (0 : Int) else 2) = er at *
  go_enter Tryz.func20, Tryz.ntmps20
  go_wp2_with (go_at_call 37; refine H.out.mono ?_; rintro r w1 ⟨rfl, hb1⟩; have X1 := Lib.hid hb1; clear hb1)
  go_ret
  exact ⟨rfl, bt HB.out X1.out⟩
set_option maxRecDepth 100000 in
set_option maxHeartbeats 1000000 in
/-- event's Print. -/
theorem evprint_any (e : Ev) (v : Value) (w : World) (hf : Fits2 e) (ht : e.tenant.size ≤ 1000000) (hd : e.data.length ≤ 1000000) (hv : BRow w v e.data) (hT : Tab w) : Calls Tryz.prog 19 #[evV e v] w fun r w' => r = .returned (.string (S ((printOf e).getD []))) ∧ Below w.heap.size w w' := by
  obtain ⟨av, cv, rfl⟩ := brow_form hv
  have hb := box_below e.kind e.session e.stream e.tenant e.n e.m e.bits av e.data.length cv w
  have H : Hid (Calls Tryz.prog 37 #[evV e (.slice av e.data.length cv)] (w.alloc (.cells #[.int .i64 e.kind, .int .i64 e.session, .int .i64 e.stream, .string e.tenant, .int .u64 (e.n : Int), .int .i64 e.m, .int .u64 (e.bits : Int), .slice av e.data.length cv] 44)) fun r w' => r = .returned (.tuple #[.string (S ((printOf e).getD [])), .int .i64 (if (printOf e).isSome then 0 else 2)]) ∧ Below (w.alloc (.cells #[.int .i64 e.kind, .int .i64 e.session, .int .i64 e.stream, .string e.tenant, .int .u64 (e.n : Int), .int .i64 e.m, .int .u64 (e.bits : Int), .slice av e.data.length cv] 44)).heap.size (w.alloc (.cells #[.int .i64 e.kind, .int .i64 e.session, .int .i64 e.stream, .string e.tenant, .int .u64 (e.n : Int), .int .i64 e.m, .int .u64 (e.bits : Int), .slice av e.data.length cv] 44)) w') := Lib.hid (evwrite_any e _ _ hf ht hd (brow_below hb hv) (tab_keep hT hb))
  have HB := Lib.hid hb
  clear hf ht hd hv hT hb
  generalize S ((printOf e).getD []) = so at *
  generalize (if (printOf e).isSome then (0 : Int) else 2) = er at *
  go_enter Tryz.func19, Tryz.ntmps19
  go_wp2_with (go_at_call 37; refine H.out.mono ?_; rintro r w1 ⟨rfl, hb1⟩; have X1 := Lib.hid hb1; clear hb1)
  go_ret
  exact ⟨rfl, bt HB.out X1.out⟩
end Go.Proofs.YtinabbdecmjcpaaGreatDoor.Ev
