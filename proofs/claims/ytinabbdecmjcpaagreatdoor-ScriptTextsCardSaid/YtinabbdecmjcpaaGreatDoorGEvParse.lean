/- The contract of event.Parse: the event of a line, or what is wrong with it. -/
import Derived.Test.YtinabbdecmjcpaaGreatDoorGEvWords
import Derived.Test.YtinabbdecmjcpaaGreatDoorGEvPrintF
namespace Go.Proofs.YtinabbdecmjcpaaGreatDoor.Ev
open Go.RowKit Go.Proofs.YtinabbdecmjcpaaGreatDoor Go.Proofs.YtinabbdecmjcpaaGreatDoor.Plain Go.Proofs.YtinabbdecmjcpaaGreatDoor.Words Go.Proofs.YtinabbdecmjcpaaGreatDoor.Named Go.Proofs.YtinabbdecmjcpaaGreatDoor.Hex Go.Proofs.YtinabbdecmjcpaaGreatDoor.Number Go.Proofs.YtinabbdecmjcpaaGreatDoor.Queue Go.Proofs.YtinabbdecmjcpaaGreatDoor.Line
set_option linter.unusedVariables false

def ParsePost (r : Ev × Nat) (w : World) (e : Ending) (w' : World) : Prop := ∃ dv, e = .returned (.tuple #[evV r.1 dv, .int .i64 (r.2 : Int)]) ∧ CRow w' dv r.1.data ∧ (∀ b, b < w.heap.size → Off dv b) ∧ Below w.heap.size w w'
theorem first_eq (r : Option (List (List UInt8))) : firstOf r = first r := by
  cases r with
  | none => rfl
  | some ws => cases ws <;> rfl
theorem kind_index (l : List UInt8) (r : Int) (h : (∃ (k : Nat) (h : k < wordsL.length), r = (k : Int) ∧ wordsL[k] = l) ∨ (r = -1 ∧ ∀ k (h : k < wordsL.length), wordsL[k] ≠ l)) : r + 1 = (kindOf l : Int) := by
  have hw : ∀ k (h : k < wordsL.length), wordsL[k] = wordN (k + 1) := fun k h => by
    have := wordsL_get k (by rw [wordsL_len] at h; exact h)
    rw [List.getElem?_eq_getElem h] at this
    exact Option.some.inj this
  rcases h with ⟨k, hk, rfl, e⟩ | ⟨rfl, hn⟩
  · rw [hw] at e
    rw [wordsL_len] at hk
    have := kindOf_word ⟨k + 1, by omega⟩ (by simp)
    simp only [e] at this
    rw [this]
    simp
  · by_cases h0 : kindOf l = 0
    · rw [h0]; rfl
    · have h1 := word_kindOf l h0
      have h2 := kindOf_le l
      have h3 : kindOf l - 1 < wordsL.length := by rw [wordsL_len]; omega
      have h4 := hn (kindOf l - 1) h3
      rw [hw, show kindOf l - 1 + 1 = kindOf l by omega] at h4
      exact absurd h1 h4
theorem known_sign (s : Slot) : known (sign s) = true := by cases s <;> rfl
theorem known_pat (ss : List Slot) : ∀ c ∈ L (S (ss.map sign)), known c = true := by
  intro c hc
  have : c ∈ ss.map sign := hc
  obtain ⟨s, _, rfl⟩ := List.mem_map.1 this
  exact known_sign s
theorem data_len (w d : List UInt8) (h : bytesOf w = some d) : d.length ≤ w.length := by
  have := hexOf_bytesOf w d h
  rw [← this]
  unfold hexOf
  split
  · rename_i e; rw [e]; simp
  · rw [hexs_len]; omega
theorem fldOk_one (s : Slot) (x : List UInt8) (hx : x.length ≤ 100000) (h : signErr (sign s) x = 0) : FldOk s (readF (sign s) x).1 := by
  refine ⟨fun hs => ?_, ?_⟩
  · rw [hs] at h ⊢
    obtain ⟨a, _, b⟩ := err_s x h
    rw [a]
    exact b
  · cases s
    · show (readF 115 x).1.data.length ≤ _
      rw [(err_s x h).1]; simp
    · show (readF 115 x).1.data.length ≤ _
      rw [(err_s x h).1]; simp
    · show (readF 115 x).1.data.length ≤ _
      rw [(err_s x h).1]; simp
    · show (readF 116 x).1.data.length ≤ _
      rw [(err_t x h).1]; simp
    · show (readF 110 x).1.data.length ≤ _
      rw [err_n]; simp
    · show (readF 110 x).1.data.length ≤ _
      rw [err_n]; simp
    · obtain ⟨d, a, b⟩ := err_b x h
      show (readF 98 x).1.data.length ≤ _
      rw [a]
      have := data_len x d b
      exact Nat.le_trans this hx
theorem fldOk_all : ∀ (ss : List Slot) (xs : List (List UInt8)), (∀ x ∈ xs, x.length ≤ 100000) → signs (ss.map sign) xs = 0 → ∀ (i : Nat) (s : Slot) (f : Fld), ss[i]? = some s → (fields (ss.map sign) xs)[i]? = some f → FldOk s f
  | [], xs, _, _, i, s, f, h, _ => by simp at h
  | t :: ss, [], _, _, i, s, f, _, h => by simp [fields] at h
  | t :: ss, x :: xs, hx, hs, 0, s, f, h, k => by
    obtain ⟨a, b⟩ := signs_cons _ _ _ _ hs
    simp [fields] at h k
    subst h k
    exact fldOk_one t x (hx x (by simp)) a
  | t :: ss, x :: xs, hx, hs, i + 1, s, f, h, k => by
    obtain ⟨a, b⟩ := signs_cons _ _ _ _ hs
    exact fldOk_all ss xs (fun y hy => hx y (by simp [hy])) b i s f (by simpa using h) (by simpa [fields] using k)
/-- Of a line that fits: what its fields may be. -/
theorem fields_ok (l : List UInt8) (k : Nat) (hl : l.length ≤ 100000) (h : checkOf (words l) (wordN k) ((slotsN k).map sign) = 0) : (fieldsOf (words l) ((slotsN k).map sign)).length = (slotsN k).length ∧ ∀ (i : Nat) (s : Slot) (f : Fld), (slotsN k)[i]? = some s → (fieldsOf (words l) ((slotsN k).map sign))[i]? = some f → FldOk s f := by
  obtain ⟨xs, hw, hlen, hs⟩ := check_zero _ _ _ h
  have hx : ∀ x ∈ xs, x.length ≤ 100000 := fun x hx => by
    have e := (words_back _ _ hw).1
    have := join_len (wordN k :: xs) x (by simp [hx])
    rw [e] at this
    omega
  rw [hw]
  show (fields ((slotsN k).map sign) xs).length = _ ∧ _
  refine ⟨by rw [fields_len _ _ hlen]; simp, fldOk_all (slotsN k) xs hx hs⟩
theorem slots_three (k : Nat) : (slotsN k).length ≤ 3 := by
  unfold slotsN
  split <;> simp
theorem FRow.mono {w : World} {B C : Nat} {v : Value} {fs : List Fld} (h : FRow w B v fs) (hc : C ≤ B) : FRow w C v fs := by
  obtain ⟨g, cap, dvs, e, hg, ho, hd⟩ := h
  exact ⟨g, cap, dvs, e, by omega, ho, hd.1, fun i f d hf hd' => ⟨(hd.2 i f d hf hd').1, (hd.2 i f d hf hd').2.1, fun b hb => (hd.2 i f d hf hd').2.2 b (by omega)⟩⟩
theorem parse_bad (l : List UInt8) (h : kindOf (first (words l)) = 0) : parseOf l = (ev0 0, 5) := by unfold parseOf; rw [if_pos h]
theorem parse_err (l : List UInt8) (K : Nat) (hK : kindOf (first (words l)) = K) (h : K ≠ 0) (he : checkOf (words l) (wordN K) ((slotsN K).map sign) ≠ 0) : parseOf l = (ev0 0, checkOf (words l) (wordN K) ((slotsN K).map sign)) := by
  subst hK
  unfold parseOf
  rw [if_neg h, if_pos (show checkOf (words l) (wordN (kindOf (first (words l)))) (patN (kindOf (first (words l)))) ≠ 0 from he)]
  rfl
theorem parse_ok (l : List UInt8) (K : Nat) (hK : kindOf (first (words l)) = K) (h : K ≠ 0) (he : checkOf (words l) (wordN K) ((slotsN K).map sign) = 0) : parseOf l = (putF (ev0 K) (slotsN K) (fieldsOf (words l) ((slotsN K).map sign)), 0) := by
  subst hK
  unfold parseOf
  rw [if_neg h, if_neg (by rw [show patN (kindOf (first (words l))) = (slotsN (kindOf (first (words l)))).map sign from rfl, he]; simp)]
  rfl

set_option maxRecDepth 100000 in
set_option maxHeartbeats 4000000 in
theorem parse_any (s : ByteArray) (w : World) (hs : s.size ≤ 100000) : Calls Tryz.prog 47 #[.string s] w (ParsePost (parseOf (L s)) w) := by
  have hwd := Lib.hid (fun W => word_any s W (by omega))
  have hfe := first_eq (words (L s))
  obtain ⟨K, hK⟩ : ∃ K, kindOf (first (words (L s))) = K := ⟨_, rfl⟩
  have hK15 : K ≤ 15 := by rw [← hK]; exact kindOf_le _
  rw [hfe] at hwd
  have HK := Lib.hid hK
  clear hK hfe
  have HW := Lib.hid evwords
  obtain ⟨P, hP⟩ : ∃ P, P = parseOf (L s) := ⟨_, rfl⟩
  rw [← hP]
  have HP := Lib.hid hP
  clear hP
  have R0 := Lib.hid (C8.new w (.int .i64 0) (.int .i64 0) (.int .i64 0) (.string ⟨#[]⟩) (.int .u64 0) (.int .i64 0) (.int .u64 0) (.slice none 0 0) 44)
  have b0 : Below w.heap.size w (w.alloc (.cells #[.int .i64 0, .int .i64 0, .int .i64 0, .string ⟨#[]⟩, .int .u64 0, .int .i64 0, .int .u64 0, .slice none 0 0] 44)) := (Below.refl _ _).alloc (Nat.le_refl _) _
  have hz : (w.alloc (.cells #[.int .i64 0, .int .i64 0, .int .i64 0, .string ⟨#[]⟩, .int .u64 0, .int .i64 0, .int .u64 0, .slice none 0 0] 44)).heap.size = w.heap.size + 1 := by simp
  have HZ := Lib.hid hz
  have B0 := Lib.hid b0
  clear b0 hz
  go_enter Tryz.func47, Tryz.ntmps47
  go_wp2_with fail
  refine (HW.out _).mono ?_
  rintro e w1 ⟨rfl, hc1, hb1⟩
  have R1 := Lib.hid (R0.out.below hb1)
  have B1 := Lib.hid (bt B0.out hb1)
  rw [HZ.out] at hc1
  have X1 := Lib.hid hc1
  clear hb1 hc1 R0 B0
  go_wp2_with fail
  refine (hwd.out _).mono ?_
  rintro e w2 ⟨rfl, hb2⟩
  have R2 := Lib.hid (R1.out.below hb2)
  have B2 := Lib.hid (bt B1.out hb2)
  have X2 : Hid (∀ i (h : i < wordsL.length), w2.cell? ⟨w.heap.size + 1, i, none⟩ = some (.string (S wordsL[i]))) := Lib.hid fun i h => keep_c hb2 (X1.out i h)
  clear hb2 R1 X1 B1
  go_wp2_with fail
  refine (index_any wordsL 15 (w.heap.size + 1) 15 (S (first (words (L s)))) w2 (by rw [wordsL_len]) (by omega) X2.out).mono ?_
  rintro e w3 ⟨r, rfl, rfl, hr⟩
  have hrk := kind_index _ _ hr
  rw [show L (S (first (words (L s)))) = first (words (L s)) from rfl, HK.out] at hrk
  have hw : IntKind.i64.wrap (r + 1) = (K : Int) := by rw [hrk]; exact IntWalk.i64_in _ (by omega)
  clear hr hrk X2
  go_wp2_with fail
  have hx8 := C8.new w2 (.int .i64 (K : Int)) (.int .i64 0) (.int .i64 0) (.string ⟨#[]⟩) (.int .u64 0) (.int .i64 0) (.int .u64 0) (.slice none 0 0) 44
  have bb : Below w2.heap.size w2 (w2.alloc (.cells #[.int .i64 (K : Int), .int .i64 0, .int .i64 0, .string ⟨#[]⟩, .int .u64 0, .int .i64 0, .int .u64 0, .slice none 0 0] 44)) := (Below.refl _ _).alloc (Nat.le_refl _) _
  have hsz : (w2.alloc (.cells #[.int .i64 (K : Int), .int .i64 0, .int .i64 0, .string ⟨#[]⟩, .int .u64 0, .int .i64 0, .int .u64 0, .slice none 0 0] 44)).heap.size = w2.heap.size + 1 := by simp
  have X3 := Lib.hid hx8
  have R3 := Lib.hid (R2.out.below bb)
  have B3 := Lib.hid (bt B2.out bb)
  have HS3 := Lib.hid hsz
  have hlw : w.heap.size < w2.heap.size := R2.out.lt
  clear hx8 bb hsz R2 hw
  generalize w2.alloc (.cells #[.int .i64 (K : Int), .int .i64 0, .int .i64 0, .string ⟨#[]⟩, .int .u64 0, .int .i64 0, .int .u64 0, .slice none 0 0] 44) = W3 at *
  by_cases hk0 : K = 0
  · refine (shapeOut (K : Int) (by omega) w2.heap.size W3).mono ?_
    rintro e w4 ⟨rfl, hb4⟩
    have R4 := R3.out.below hb4
    have B4 := Lib.hid (bt B3.out hb4)
    have mR : w.heap.size < w4.heap.size := R4.lt
    have hPv : P = (ev0 0, 5) := by rw [HP.out]; exact parse_bad _ (by rw [HK.out, hk0])
    have HPV := Lib.hid hPv
    have R4h := Lib.hid R4
    obtain ⟨r0, r1, r2, r3, r4, r5, r6, r7, rf⟩ := R4
    have f0 := rf 0
    have f1 := rf 1
    have f2 := rf 2
    have f3 := rf 3
    have f4 := rf 4
    have f5 := rf 5
    have f6 := rf 6
    have f7 := rf 7
    clear hPv hb4 hk0 R3 B3 rf
    go_wp2
    have F := (put8 R4h.out (.int .i64 0) (.int .i64 0) (.int .i64 0) (.string ⟨#[]⟩) (.int .u64 0) (.int .i64 0) (.int .u64 0) (.slice none 0 0)).below ((Below.refl _ _).alloc (Nat.le_refl _) (.cells #[.string ⟨#[]⟩, .string ⟨#[]⟩, .pointer none, .pointer none, .pointer none, .pointer none, .pointer none, .pointer none, .pointer none, .pointer none, .pointer none, .pointer none, .pointer none, .pointer none] 111))
    obtain ⟨q0, q1, q2, q3, q4, q5, q6, q7, _⟩ := F
    refine bodyPost_ret (v := .tuple #[evV (ev0 0) (.slice none 0 0), .int .i64 5]) (by simp [results, Tryz.results47, go_sem, q0, q1, q2, q3, q4, q5, q6, q7, ev0]) rfl ⟨.slice none 0 0, by rw [HPV.out]; rfl, by rw [HPV.out]; exact crow_nil _, fun b _ => off_nil b, ?_⟩
    exact (below_put8 B4.out (Nat.le_refl _) _ _ _ _ _ _ _ _).alloc (by simp; exact B4.out.size) _
  · have k1 : 1 ≤ K := by omega
    have hsh := shape_any K k1 hK15 w2.heap.size W3
    have hput := fun (fs : List Fld) (v : Value) (W : World) => put_any (S (wordN K)) (slotsN K) fs w2.heap.size v (ev0 K) W
    obtain ⟨p2, e2⟩ := spN_ptr (sp0 w2.heap.size) (sp0_ptr w2.heap.size) (slotsN K) 0
    obtain ⟨p3, e3⟩ := spN_ptr (sp1 w2.heap.size) (sp1_ptr w2.heap.size) (slotsN K) 0
    obtain ⟨p4, e4⟩ := spN_ptr (sp2 w2.heap.size) (sp2_ptr w2.heap.size) (slotsN K) 0
    obtain ⟨p5, e5⟩ := spN_ptr (sp3 w2.heap.size) (sp3_ptr w2.heap.size) (slotsN K) 0
    obtain ⟨p6, e6⟩ := spN_ptr (sp0 w2.heap.size) (sp0_ptr w2.heap.size) (slotsN K) 1
    obtain ⟨p7, e7⟩ := spN_ptr (sp1 w2.heap.size) (sp1_ptr w2.heap.size) (slotsN K) 1
    obtain ⟨p8, e8⟩ := spN_ptr (sp2 w2.heap.size) (sp2_ptr w2.heap.size) (slotsN K) 1
    obtain ⟨p9, e9⟩ := spN_ptr (sp3 w2.heap.size) (sp3_ptr w2.heap.size) (slotsN K) 1
    obtain ⟨p10, e10⟩ := spN_ptr (sp0 w2.heap.size) (sp0_ptr w2.heap.size) (slotsN K) 2
    obtain ⟨p11, e11⟩ := spN_ptr (sp1 w2.heap.size) (sp1_ptr w2.heap.size) (slotsN K) 2
    obtain ⟨p12, e12⟩ := spN_ptr (sp2 w2.heap.size) (sp2_ptr w2.heap.size) (slotsN K) 2
    obtain ⟨p13, e13⟩ := spN_ptr (sp3 w2.heap.size) (sp3_ptr w2.heap.size) (slotsN K) 2
    rw [e2, e3, e4, e5, e6, e7, e8, e9, e10, e11, e12, e13] at hsh
    simp only [e2, e3, e4, e5, e6, e7, e8, e9, e10, e11, e12, e13] at hput
    clear e2 e3 e4 e5 e6 e7 e8 e9 e10 e11 e12 e13
    have hlr := fun W => lineread_any s (S (wordN K)) (S ((slotsN K).map sign)) W (by omega) (by show ((slotsN K).map sign).toArray.size ≤ _; have := slots_three K; simp; omega) (known_pat _)
    rw [show L (S (wordN K)) = wordN K from rfl, show L (S ((slotsN K).map sign)) = (slotsN K).map sign from rfl] at hlr
    have hfo := fields_ok (L s) K (by rw [L_len]; exact hs)
    have hp1 := parse_err (L s) K HK.out hk0
    have hp2 := parse_ok (L s) K HK.out hk0
    have hs3 := slots_three K
    rw [← HP.out] at hp1 hp2
    generalize checkOf (words (L s)) (wordN K) ((slotsN K).map sign) = ER at *
    generalize fieldsOf (words (L s)) ((slotsN K).map sign) = FS at *
    have HPUT : Hid (ER = 0 → ∀ (v : Value) (W : World), FRow W (w2.heap.size + 1) v FS → EvAt W w2.heap.size (ev0 K) → Calls Tryz.prog 68 #[.agg #[.string (S (wordN K)), .string (S ((slotsN K).map sign)), .pointer p2, .pointer p3, .pointer p4, .pointer p5, .pointer p6, .pointer p7, .pointer p8, .pointer p9, .pointer p10, .pointer p11, .pointer p12, .pointer p13], v] W (EachPost [w2.heap.size] (fun w' => EvAt w' w2.heap.size (putF (ev0 K) (slotsN K) FS)) W)) := Lib.hid fun he v W hr hev => hput FS v W (hfo he).1 hs3 (hfo he).2 hr hev
    have HP1 := Lib.hid hp1
    have HP2 := Lib.hid hp2
    have HLR := Lib.hid hlr
    have HSH := Lib.hid hsh
    clear hput hfo hp1 hp2 hlr hsh hs3 HP HW HK
    generalize S (wordN K) = wd at *
    generalize S ((slotsN K).map sign) = pt at *
    generalize putF (ev0 K) (slotsN K) FS = E at *
    refine HSH.out.mono ?_
    rintro e w4 ⟨rfl, hb4⟩
    have R4 := Lib.hid (R3.out.below hb4)
    have X4 := Lib.hid (X3.out.below hb4)
    have B4 := Lib.hid (bt B3.out hb4)
    have hs4 : w2.heap.size < w4.heap.size := X4.out.lt
    clear hb4 R3 X3 B3 HS3 HSH
    go_wp2_with fail
    have b5 : Below w4.heap.size w4 (w4.alloc (.cells #[.string wd, .string pt, .pointer p2, .pointer p3, .pointer p4, .pointer p5, .pointer p6, .pointer p7, .pointer p8, .pointer p9, .pointer p10, .pointer p11, .pointer p12, .pointer p13] 111)) := (Below.refl _ _).alloc (Nat.le_refl _) _
    have S5 := Lib.hid (C14.new w4 (.string wd) (.string pt) (.pointer p2) (.pointer p3) (.pointer p4) (.pointer p5) (.pointer p6) (.pointer p7) (.pointer p8) (.pointer p9) (.pointer p10) (.pointer p11) (.pointer p12) (.pointer p13) 111)
    have hz5 : w4.heap.size ≤ (w4.alloc (.cells #[.string wd, .string pt, .pointer p2, .pointer p3, .pointer p4, .pointer p5, .pointer p6, .pointer p7, .pointer p8, .pointer p9, .pointer p10, .pointer p11, .pointer p12, .pointer p13] 111)).heap.size := by simp
    have R5 := Lib.hid (R4.out.below b5)
    have X5 := Lib.hid (X4.out.below b5)
    have B5 := Lib.hid (bt B4.out b5)
    clear b5 R4 X4 B4
    generalize w4.alloc (.cells #[.string wd, .string pt, .pointer p2, .pointer p3, .pointer p4, .pointer p5, .pointer p6, .pointer p7, .pointer p8, .pointer p9, .pointer p10, .pointer p11, .pointer p12, .pointer p13] 111) = W5 at *
    refine (HLR.out _).mono ?_
    rintro e w5 ⟨v, rfl, hb5, hv0, hv1⟩
    have R6 := Lib.hid (R5.out.below hb5)
    have X6 := Lib.hid (X5.out.below hb5)
    have S6 := Lib.hid (S5.out.below hb5)
    have B6 := Lib.hid (bt B5.out hb5)
    clear hb5 R5 X5 S5 B5 HLR
    by_cases her : ER = 0
    rotate_left
    · obtain rfl := hv0 her
      have t : ((ER : Int) != 0) = true := by rw [bne_iff_ne]; omega
      have hPv := Lib.hid (HP1.out her)
      obtain ⟨r0, r1, r2, r3, r4, r5, r6, r7, rf⟩ := R6.out
      have f0 := rf 0
      have f1 := rf 1
      have f2 := rf 2
      have f3 := rf 3
      have f4 := rf 4
      have f5 := rf 5
      have f6 := rf 6
      have f7 := rf 7
      obtain ⟨s0, s1, s2, s3, s4, s5, s6, s7, s8, s9, s10, s11, s12, s13, sf⟩ := S6.out
      clear rf sf her hv1 hv0
      go_wp2
      have F := put8 R6.out (.int .i64 0) (.int .i64 0) (.int .i64 0) (.string ⟨#[]⟩) (.int .u64 0) (.int .i64 0) (.int .u64 0) (.slice none 0 0)
      obtain ⟨q0, q1, q2, q3, q4, q5, q6, q7, _⟩ := F
      refine bodyPost_ret (v := .tuple #[evV (ev0 0) (.slice none 0 0), .int .i64 (ER : Int)]) (by simp [results, Tryz.results47, go_sem, q0, q1, q2, q3, q4, q5, q6, q7, ev0]) rfl ⟨.slice none 0 0, by rw [hPv.out], by rw [hPv.out]; exact crow_nil _, fun b _ => off_nil b, ?_⟩
      exact below_put8 B6.out (Nat.le_refl _) _ _ _ _ _ _ _ _
    · have hfr := hv1 her
      obtain ⟨g, cap, rfl⟩ : ∃ g cap, v = .slice (some ⟨g, 0, none⟩) FS.length cap := by obtain ⟨g, cap, _, e, _⟩ := hfr; exact ⟨g, cap, e⟩
      have HFR := Lib.hid (hfr.mono (C := w2.heap.size + 1) (by omega))
      have t : ((ER : Int) != 0) = false := by rw [bne_eq_false_iff_eq]; omega
      have hPv := Lib.hid (HP2.out her)
      have HPU := Lib.hid (HPUT.out her)
      obtain ⟨s0, s1, s2, s3, s4, s5, s6, s7, s8, s9, s10, s11, s12, s13, sf⟩ := S6.out
      clear sf her hv1 hv0 hfr
      go_wp2_with fail
      refine (HPU.out _ _ HFR.out ⟨.slice none 0 0, X6.out, crow_nil _, fun b _ => off_nil b⟩).mono ?_
      rintro e w6 ⟨rfl, hc6, hev6⟩
      obtain ⟨dv, h8, hcr, hoff⟩ := hev6
      obtain ⟨ad, cd, rfl⟩ := crow_form hcr
      have R7 := Lib.hid (R6.out.chg hc6 (by simp; omega))
      have B7 := Lib.hid (B6.out.trans (hc6.below B6.out.size (by simp; omega)))
      have HCR := Lib.hid (And.intro hcr hoff)
      obtain ⟨x0, x1, x2, x3, x4, x5, x6, x7, xf⟩ := h8
      obtain ⟨r0, r1, r2, r3, r4, r5, r6, r7, rf⟩ := R7.out
      have f0 := rf 0
      have f1 := rf 1
      have f2 := rf 2
      have f3 := rf 3
      have f4 := rf 4
      have f5 := rf 5
      have f6 := rf 6
      have f7 := rf 7
      clear rf xf hcr hoff hc6 s0 s1 s2 s3 s4 s5 s6 s7 s8 s9 s10 s11 s12 s13
      go_wp2
      have F := put8 R7.out (.int .i64 E.kind) (.int .i64 E.session) (.int .i64 E.stream) (.string E.tenant) (.int .u64 (E.n : Int)) (.int .i64 E.m) (.int .u64 (E.bits : Int)) (.slice ad E.data.length cd)
      obtain ⟨q0, q1, q2, q3, q4, q5, q6, q7, _⟩ := F
      refine bodyPost_ret (v := .tuple #[evV E (.slice ad E.data.length cd), .int .i64 0]) (by simp [results, Tryz.results47, go_sem, q0, q1, q2, q3, q4, q5, q6, q7]) rfl ⟨.slice ad E.data.length cd, by rw [hPv.out]; rfl, ?_, ?_, ?_⟩
      · rw [hPv.out]
        exact crow_chg HCR.out.1 (((((((((Chg.refl [w.heap.size] w6).setCell (p := ⟨w.heap.size, 0, none⟩) (by simp) _).setCell (p := ⟨w.heap.size, 1, none⟩) (by simp) _).setCell (p := ⟨w.heap.size, 2, none⟩) (by simp) _).setCell (p := ⟨w.heap.size, 3, none⟩) (by simp) _).setCell (p := ⟨w.heap.size, 4, none⟩) (by simp) _).setCell (p := ⟨w.heap.size, 5, none⟩) (by simp) _).setCell (p := ⟨w.heap.size, 6, none⟩) (by simp) _).setCell (p := ⟨w.heap.size, 7, none⟩) (by simp) _) (fun b hb => by simp at hb; subst hb; exact HCR.out.2 _ (by omega))
      · exact fun b hb => HCR.out.2 b (by omega)
      · exact below_put8 B7.out (Nat.le_refl _) _ _ _ _ _ _ _ _
end Go.Proofs.YtinabbdecmjcpaaGreatDoor.Ev
