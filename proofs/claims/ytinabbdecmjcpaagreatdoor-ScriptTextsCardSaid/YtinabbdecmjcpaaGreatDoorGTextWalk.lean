/- The contract of script's Text: a script's text, or that it is none. -/
import Derived.Deep.RegionWith
import Derived.Test.YtinabbdecmjcpaaGreatDoorG14
import Derived.Test.YtinabbdecmjcpaaGreatDoorG19
import Derived.Test.YtinabbdecmjcpaaGreatDoorGEvWrite
import Derived.Test.YtinabbdecmjcpaaGreatDoorGRefLines
namespace Go.Proofs.YtinabbdecmjcpaaGreatDoor.Script
open Go.RowKit Go.Deep Go.Proofs.YtinabbdecmjcpaaGreatDoor Go.Proofs.YtinabbdecmjcpaaGreatDoor.Plain Go.Proofs.YtinabbdecmjcpaaGreatDoor.Words Go.Proofs.YtinabbdecmjcpaaGreatDoor.Named Go.Proofs.YtinabbdecmjcpaaGreatDoor.Hex Go.Proofs.YtinabbdecmjcpaaGreatDoor.Number Go.Proofs.YtinabbdecmjcpaaGreatDoor.Queue Go.Proofs.YtinabbdecmjcpaaGreatDoor.Line Go.Proofs.YtinabbdecmjcpaaGreatDoor.Ev
set_option linter.unusedVariables false

theorem C3.new (w : World) (a0 a1 a2 : Value) (t : TypeId) : C3 (w.alloc (.cells #[a0, a1, a2] t)) w.heap.size a0 a1 a2 :=
  ⟨World.cell?_alloc_at _ _ _ _ rfl, World.cell?_alloc_at _ _ _ _ rfl, World.cell?_alloc_at _ _ _ _ rfl, fun o => World.frozen?_alloc_at _ _ _ _ rfl⟩
theorem C3.below {w w' : World} {x : Nat} {a0 a1 a2 : Value} (h : C3 w x a0 a1 a2) (hb : Below w.heap.size w w') : C3 w' x a0 a1 a2 := h.same (hb.block x (World.block_lt_of_cell? _ _ h.c0))
/-- The builder holds a text; all that lay below it is as it was. -/
structure Bd (w0 : World) (b : Nat) (bs : List UInt8) (w : World) : Prop where
  is : Lib.IsBuilder 50 5 b b (bs.map bv) w
  low : Below b w0 w
  lt : b < w.heap.size
theorem isB_below {b : Nat} {bs : List UInt8} {w w' : World} (h : Lib.IsBuilder 50 5 b b (bs.map bv) w) (hb : Below w.heap.size w w') : Lib.IsBuilder 50 5 b b (bs.map bv) w' := by
  have key : ∀ p, Lib.BuilderAt 50 5 b b p (bs.map bv) w → Lib.BuilderAt 50 5 b b p (bs.map bv) w' := fun p h => by
    have hl := h.lt
    obtain ⟨hB, v, hc, ho, hne⟩ := h
    exact ⟨hB, v, (hb.block b hl).trans hc, own_keep ho hb, hne⟩
  rcases h with h | h
  · exact .inl (key _ h)
  · exact .inr (key _ h)
theorem low_tr {b : Nat} {w0 w w' : World} (h : Below b w0 w) (k : Below b w w') : Below b w0 w' := ⟨k.os.trans h.os, k.tape.trans h.tape, k.output.trans h.output, Nat.le_trans h.size k.size, fun i hi => (k.block i hi).trans (h.block i hi)⟩
theorem Bd.below {w0 w w' : World} {b : Nat} {bs : List UInt8} (h : Bd w0 b bs w) (hb : Below w.heap.size w w') : Bd w0 b bs w' :=
  ⟨isB_below h.is hb, low_tr h.low (hb.mono (Nat.le_of_lt h.lt)), Nat.lt_of_lt_of_le h.lt hb.size⟩
theorem bd_new (w : World) : Bd w w.heap.size [] (w.alloc (.cells #[.pointer none, .slice none 0 0] 50)) :=
  ⟨.inl ⟨Nat.le_refl _, .slice none 0 0, World.alloc_heap_new w _, ⟨rfl, .inl ⟨rfl, rfl⟩⟩, by simp [Value.ownBlock]⟩, (Below.refl _ _).alloc (Nat.le_refl _) _, by simp⟩
/-- One line more. -/
theorem put_line {w0 w : World} {b : Nat} {bs : List UInt8} (h : Bd w0 b bs w) (l : List UInt8) (hl : bs.length + l.length + 1 ≤ 1000000000000) :
    Calls Tryz.prog 15 #[.string (S l), .int .i64 0, .pointer (some ⟨b, 0, none⟩)] w fun e w' => e = .returned (.bool true) ∧ Bd w0 b (bs ++ (L (S l) ++ [10])) w' ∧ Below b w w' := by
  refine (put15_ok b b bs (S l) w h.is (by show _ + l.toArray.size + 1 ≤ _; simpa using hl) (Nat.le_of_lt h.lt)).mono ?_
  rintro e w' ⟨rfl, h1, h2⟩
  exact ⟨rfl, ⟨h1, low_tr h.low h2, Nat.lt_of_lt_of_le h.lt h2.size⟩, h2⟩
theorem field2 (W : World) (nm : ByteArray) (kv : Value) (key : List UInt8) (hk : BRow W kv key) (n : Nat) (hn : n = W.heap.size) :
    FIn (W.alloc (.cells #[.string nm, .int .u64 0, .slice none 0 0, .string ⟨#[]⟩, .int .u64 0, kv] 59)) (.slice (some ⟨n, 0, none⟩) 2 2) (tenF ⟨nm, key⟩) := by
  subst hn
  have hb : Below W.heap.size W (W.alloc (.cells #[.string nm, .int .u64 0, .slice none 0 0, .string ⟨#[]⟩, .int .u64 0, kv] 59)) := b_alloc _ _
  refine ⟨W.heap.size, 2, rfl, by simp, fun i f hf => ?_⟩
  match i, hf with
  | 0, hf =>
    cases Option.some.inj hf
    exact ⟨.slice none 0 0, (World.cell?_alloc_at _ _ _ _ rfl).trans (by show some (Value.string nm) = some (.string (S (L nm))); rw [S_L]), World.cell?_alloc_at _ _ _ _ rfl, World.cell?_alloc_at _ _ _ _ rfl, brow_nil _⟩
  | 1, hf =>
    cases Option.some.inj hf
    exact ⟨kv, World.cell?_alloc_at _ _ _ _ rfl, World.cell?_alloc_at _ _ _ _ rfl, World.cell?_alloc_at _ _ _ _ rfl, brow_below hb hk⟩
  | (k + 2), hf => simp [tenF] at hf
theorem field1 (W : World) (m n : Nat) (hn : n = W.heap.size) :
    FIn (W.alloc (.cells #[.string ⟨#[]⟩, .int .u64 (m : Int), .slice none 0 0] 59)) (.slice (some ⟨n, 0, none⟩) 1 1) [⟨[], m, []⟩] := by
  subst hn
  refine ⟨W.heap.size, 1, rfl, by simp, fun i f hf => ?_⟩
  match i, hf with
  | 0, hf =>
    cases Option.some.inj hf
    exact ⟨.slice none 0 0, World.cell?_alloc_at _ _ _ _ rfl, World.cell?_alloc_at _ _ _ _ rfl, World.cell?_alloc_at _ _ _ _ rfl, brow_nil _⟩
  | (k + 1), hf => simp at hf
/-- The line of a tenant that may be. -/
theorem ten_write (t : Ten) (v : Value) (w : World) (hn : namedB 16 smallB lowB (L t.name) = true) (hk : t.key.length ≤ 32) (hv : FIn w v (tenF t)) (hT : Tab w) :
    Calls Tryz.prog 18 #[.string ⟨#[116, 101, 110, 97, 110, 116]⟩, .string ⟨#[116, 98]⟩, v] w fun e w' => e = .returned (.tuple #[.string (S (tenL t)), .int .i64 0]) ∧ Below w.heap.size w w' := by
  have hs := named_size _ hn
  have h := linewrite_any (S wTen) (S [116, 98]) v (tenF t) w (by decide) (by decide) (by decide) rfl (fun f hf => by
    simp only [tenF, List.mem_cons, List.not_mem_nil, or_false] at hf
    rcases hf with rfl | rfl
    · exact ⟨by show (L t.name).length ≤ _; rw [L_len]; omega, by simp, by simp⟩
    · exact ⟨by simp, by show t.key.length ≤ _; omega, by simp⟩) hv hT
  rw [show Ev.lineOf (L (S wTen)) (L (S [116, 98])) (tenF t) = tenL t from rfl, show L (S wTen) = wTen from rfl, show L (S [116, 98]) = [116, 98] from rfl, tenF_check t hn] at h
  exact h
theorem num_write (wd : List UInt8) (ln : List UInt8) (m : Nat) (v : Value) (w : World) (hw : wd.length ≤ 1000) (hl : Ev.lineOf wd [115] [⟨[], m, []⟩] = ln) (hm : m < 18446744073709551616) (hv : FIn w v [⟨[], m, []⟩]) (hT : Tab w) :
    Calls Tryz.prog 18 #[.string (S wd), .string ⟨#[115]⟩, v] w (WritePost (checkOf (words ln) wd [115]) ln w) := by
  have h := linewrite_any (S wd) (S [115]) v [⟨[], m, []⟩] w (by show wd.toArray.size ≤ _; simpa using hw) (by decide) (by decide) rfl (fun f hf => by
    simp only [List.mem_cons, List.not_mem_nil, or_false] at hf
    subst hf
    exact ⟨by simp, by simp, hm⟩) hv hT
  rw [show Ev.lineOf (L (S wd)) (L (S [115])) [⟨[], m, []⟩] = ln from hl, show L (S wd) = wd from rfl, show L (S [115]) = [115] from rfl] at h
  exact h
theorem wrap_u64 (n : Nat) (h : n < 18446744073709551616) : IntKind.u64.wrap (n : Int) = (n : Int) := by
  show (n : Int) % 18446744073709551616 = n
  omega
theorem tx_two (ts : List Ten) (cn sn : Nat) (hc : cn < 18446744073709551616) (hs : sn < 18446744073709551616) (k : Nat) (h : (tx (ts.map tenL)).length ≤ k * 101) : (tx (ts.map tenL)).length + (capL cn).length + 1 ≤ k * 101 + 101 ∧ (tx (ts.map tenL) ++ (L (S (capL cn)) ++ [10])).length + (sesL sn).length + 1 ≤ k * 101 + 202 ∧ (tx (ts.map tenL ++ [capL cn, sesL sn])).length ≤ k * 101 + 202 := by
  have h1 := capL_len cn hc
  have h2 := sesL_len sn hs
  have e1 := tx_len (ts.map tenL) (capL cn)
  have e2 := tx_len (ts.map tenL ++ [capL cn]) (sesL sn)
  rw [List.append_assoc] at e2
  rw [← tx_snoc]
  refine ⟨by omega, by omega, ?_⟩
  show (tx (ts.map tenL ++ ([capL cn] ++ [sesL sn]))).length ≤ _
  omega
def TextPost (ts : List Ten) (cap sess : Int) (es : List Ev) (w : World) (e : Ending) (w' : World) : Prop :=
  e = .returned (.tuple #[.string (if scriptB ts cap sess es = true then S (tx (linesL ts cap.toNat sess.toNat es)) else ⟨#[]⟩), .int .i64 (if scriptB ts cap sess es = true then 0 else 2)]) ∧ Below w.heap.size w w'
/-- What is asked of the events. -/
def EvsOk (es : List Ev) : Prop := ∀ e ∈ es, Fits2 e ∧ EvOk e

set_option maxRecDepth 100000 in
set_option maxHeartbeats 8000000 in
theorem text7 (ts : List Ten) (cap sess : Int) (es : List Ev) (vt ve : Value) (w : World) (ht : TRow w vt ts) (hnt : ts.length ≤ 1000000) (hst : ∀ t ∈ ts, t.name.size ≤ 1000000000000) (he : ERow w ve es) (hne : es.length ≤ 1000) (hse : EvsOk es) (hc1 : cap ≤ 9223372036854775807) (hs1 : sess ≤ 9223372036854775807) (hT : Tab w) :
    Calls Tryz.prog 7 #[setV vt cap sess, ve] w (TextPost ts cap sess es w) := by
  obtain ⟨at', ct, rfl⟩ := trow_form ht
  obtain ⟨ae, ce, rfl⟩ := erow_form he
  have bA : Below w.heap.size w (w.alloc (.cells #[.slice at' ts.length ct, .int .i64 cap, .int .i64 sess] 24)) := b_alloc _ _
  have hX := C3.new w (.slice at' ts.length ct) (.int .i64 cap) (.int .i64 sess) 24
  have hP := Lib.hid (proxy71 ts cap sess (.slice at' ts.length ct) (w.alloc (.cells #[.slice at' ts.length ct, .int .i64 cap, .int .i64 sess] 24)) (ht.below bA) hnt hst)
  have HT := Lib.hid ht
  have HE := Lib.hid (And.intro he hse)
  have HTT := Lib.hid hT
  have BA := Lib.hid bA
  have HX := Lib.hid hX
  have HN := Lib.hid (And.intro hnt hne)
  obtain ⟨n, hN⟩ : ∃ n, n = ts.length := ⟨_, rfl⟩
  obtain ⟨m, hM⟩ : ∃ m, m = es.length := ⟨_, rfl⟩
  rw [← hN] at HN HT hP BA HX ⊢
  rw [← hM] at HN HE ⊢
  have HNM := Lib.hid (And.intro hN hM)
  clear hX hst ht he hse hT bA hnt hne hN hM
  obtain ⟨ck, hck⟩ : ∃ ck, checkS ts cap sess = ck := ⟨_, rfl⟩
  rw [hck] at hP
  have HCK := Lib.hid hck
  clear hck
  have HP : Hid (Calls Tryz.prog 14 #[.agg #[.slice at' n ct, .int .i64 cap, .int .i64 sess]] (w.alloc (.cells #[.slice at' n ct, .int .i64 cap, .int .i64 sess] 24)) fun e w' => e = .returned (.int .i64 (ck : Int)) ∧ Below (w.alloc (.cells #[.slice at' n ct, .int .i64 cap, .int .i64 sess] 24)).heap.size (w.alloc (.cells #[.slice at' n ct, .int .i64 cap, .int .i64 sess] 24)) w') := hP
  clear hP
  by_cases h0 : ck = 0
  rotate_left
  · have t1 : ((ck : Int) != 0) = true := by rw [bne_iff_ne]; omega
    have hsc : scriptB ts cap sess es = false := by
      unfold scriptB
      rw [HCK.out, beq_eq_false_iff_ne.2 h0]
      rfl
    have HSC := Lib.hid hsc
    clear h0 hsc
    go_enter Tryz.func7, Tryz.ntmps7
    go_wp2_with (go_at_call 14; refine HP.out.mono ?_; rintro e w2 ⟨rfl, hb2⟩; have X2 := Lib.hid hb2; clear hb2)
    go_ret2
    exact ⟨by rw [HSC.out]; rfl, bt BA.out X2.out⟩
  have t1 : ((ck : Int) != 0) = false := by rw [bne_eq_false_iff_eq]; omega
  obtain ⟨h8, hten, hc0, hs0⟩ := checkS_zero ts cap sess (HCK.out.trans h0)
  have HTEN := Lib.hid (And.intro h8 hten)
  have HCK0 := Lib.hid (HCK.out.trans h0)
  obtain ⟨cn, hcv, hcn⟩ : ∃ cn : Nat, cap = (cn : Int) ∧ cn < 18446744073709551616 := ⟨cap.toNat, by omega, by omega⟩
  obtain ⟨sn, hsv, hsn⟩ : ∃ sn : Nat, sess = (sn : Int) ∧ sn < 18446744073709551616 := ⟨sess.toNat, by omega, by omega⟩
  subst hcv hsv
  have hn8 : n ≤ 8 := by have := HNM.out.1; omega
  clear h8 hten h0 HCK
  go_enter Tryz.func7, Tryz.ntmps7
  go_wp2_with fail
  refine HP.out.mono ?_
  rintro e w2 ⟨rfl, hb2⟩
  have X2 := Lib.hid (HX.out.below hb2)
  have B2 := Lib.hid (bt BA.out hb2)
  clear hb2 HP BA HX
  obtain ⟨x0, x1, x2, xf⟩ := X2.out
  clear xf
  have hl2 : w.heap.size < w2.heap.size := World.block_lt_of_cell? _ _ x0
  have hne2 := Nat.ne_of_lt hl2
  go_wp2_with fail
  have hbd := bd_new w2
  have HB3 := Lib.hid hbd
  clear hbd x0 x1 x2 hne2
  generalize w2.alloc (.cells #[.pointer none, .slice none 0 0] 50) = w3 at *
  obtain ⟨b, hbv⟩ : ∃ b, w2.heap.size = b := ⟨_, rfl⟩
  rw [hbv] at hl2 HB3 ⊢
  have HBV := Lib.hid hbv
  clear hbv
  go_loopw [19] (fun v wr => ∃ k : Nat, k ≤ n ∧ v = .int .i64 (k : Int) ∧ Hid (Bd w2 b (tx ((ts.take k).map tenL)) wr ∧ (tx ((ts.take k).map tenL)).length ≤ k * 101)) (fun v _ => n - (intOf v).toNat)
  case atStart => exact ⟨0, by omega, rfl, Lib.hid ⟨HB3.out, by simp [tx_nil]⟩⟩
  case round =>
    obtain ⟨k, hkn, rfl, hr⟩ := hrel
    have hbw : Below w.heap.size w wr := B2.out.trans (hr.out.1.low.mono (Nat.le_of_lt hl2))
    have q0 := (hr.out.1.low.cell (p := ⟨w.heap.size, 0, none⟩) hl2).trans X2.out.c0
    have q1 := (hr.out.1.low.cell (p := ⟨w.heap.size, 1, none⟩) hl2).trans X2.out.c1
    have q2 := (hr.out.1.low.cell (p := ⟨w.heap.size, 2, none⟩) hl2).trans X2.out.c2
    by_cases hlt : k < n
    · have hl : k < ts.length := by have := HNM.out.1; omega
      obtain ⟨g, o, rfl, _, hev⟩ := trow_at (HNM.out.1 ▸ HT.out) (by omega)
      obtain ⟨p0, kv, p1, hcr⟩ := (hev k ts[k] (List.getElem?_eq_getElem hl)).below hbw
      obtain ⟨ak, ck, rfl⟩ := crow_form hcr
      have hnm := HTEN.out.2 ts[k] (List.getElem_mem hl)
      have hsz := named_size _ hnm.1
      have bb : Below wr.heap.size wr (wr.alloc (.cells #[.string ts[k].name, .slice ak ts[k].key.length ck] 46)) := b_alloc _ _
      have hfi := field2 (wr.alloc (.cells #[.string ts[k].name, .slice ak ts[k].key.length ck] 46)) ts[k].name (.slice ak ts[k].key.length ck) ts[k].key (brow_below bb hcr.row) (wr.heap.size + 1) (by simp)
      have bc : Below (wr.alloc (.cells #[.string ts[k].name, .slice ak ts[k].key.length ck] 46)).heap.size (wr.alloc (.cells #[.string ts[k].name, .slice ak ts[k].key.length ck] 46)) ((wr.alloc (.cells #[.string ts[k].name, .slice ak ts[k].key.length ck] 46)).alloc (.cells #[.string ts[k].name, .int .u64 0, .slice none 0 0, .string ⟨#[]⟩, .int .u64 0, .slice ak ts[k].key.length ck] 59)) := b_alloc _ _
      have HW := Lib.hid (ten_write ts[k] _ _ hnm.1 hnm.2.2 hfi (tab_keep HTT.out (bt (bt hbw bb) bc)))
      have hlen := tenL_len ts[k] hnm.1 hnm.2.2 hsz
      have htk := take_map_snoc tenL ts k hl
      have HBD := Lib.hid ((hr.out.1.below bb).below bc)
      have HLE := Lib.hid hr.out.2
      have HTK := Lib.hid htk
      have HLN := Lib.hid hlen
      have wk : IntKind.i64.wrap ((k : Int) + 1) = (k : Int) + 1 := IntWalk.i64_in _ (by omega)
      have k0 : (0 : Int) ≤ (k : Int) := by omega
      have k1 : (k : Int) < (n : Int) := by omega
      clear hev hcr hnm hsz bb bc hfi hlen htk hr hbw
      generalize hTL : tenL ts[k] = tl at *
      generalize ts[k].name = nm at *
      generalize ts[k].key = ky at *
      clear hTL
      go_wp2_with fail
      refine HW.out.mono ?_
      rintro e w6 ⟨rfl, hb6⟩
      have HBD6 := Lib.hid (HBD.out.below hb6)
      clear hb6 HBD HW
      go_wp2_with fail
      refine (put_line HBD6.out tl (by have := HLE.out; have := HLN.out; omega)).mono ?_
      rintro e w7 ⟨rfl, hbd7, hb7⟩
      have HBD7 := Lib.hid hbd7
      clear hbd7 hb7
      go_wp2_with fail
      go_roundw
      case rel =>
        refine ⟨k + 1, by omega, by go_num, Lib.hid ⟨?_, ?_⟩⟩
        · rw [HTK.out, tx_snoc]; exact HBD7.out
        · rw [HTK.out, tx_len]; have := HLE.out; have := HLN.out; omega
      case measure => simp [intOf]; omega
    · have hkn' : k = n := by omega
      subst hkn'
      have hfull : ts.take k = ts := List.take_of_length_le (by have := HNM.out.1; omega)
      rw [hfull] at hr
      have HR := Lib.hid hr.out
      have HLB := Lib.hid (tx_two ts cn sn hcn hsn k hr.out.2)
      have HBW := Lib.hid hbw
      have wc : IntKind.u64.wrap (cn : Int) = (cn : Int) := wrap_u64 cn hcn
      have ws : IntKind.u64.wrap (sn : Int) = (sn : Int) := wrap_u64 sn hsn
      have b5 : Below wr.heap.size wr (wr.alloc (.cells #[.string ⟨#[]⟩, .int .u64 (cn : Int), .slice none 0 0] 59)) := b_alloc _ _
      have HW := Lib.hid (num_write wCap (capL cn) cn _ _ (by decide) rfl hcn (field1 wr cn wr.heap.size rfl) (tab_keep HTT.out (bt hbw b5)))
      have HB5 := Lib.hid (HR.out.1.below b5)
      have hce := cap_check cn hcn
      have HCE := Lib.hid hce
      clear hce b5 hr hfull hbw
      generalize checkOf (words (capL cn)) wCap [115] = er at *
      by_cases hcm : cn ≤ 2147483647
      rotate_left
      · have her : er ≠ 0 := fun h => hcm (HCE.out ▸ h)
        have t5 : ((er : Int) != 0) = true := by rw [bne_iff_ne]; omega
        have hsc : scriptB ts (cn : Int) (sn : Int) es = false := by
          unfold scriptB
          rw [decide_eq_false (show ¬ ((cn : Int) ≤ 2147483647) by omega)]
          simp
        have HSC := Lib.hid hsc
        have HER := Lib.hid her
        clear hsc her hcm
        go_wp2_with fail
        refine HW.out.mono ?_
        rintro e w6 ⟨rfl, hb6⟩
        have HB6 := Lib.hid (HB5.out.below hb6)
        rw [if_neg HER.out]
        clear hb6
        go_wp2_with fail
        refine (put15_err _ (er : Int) _ w6 t5).mono ?_
        rintro e w7 ⟨rfl, rfl⟩
        go_wp2_with fail
        go_ret2
        exact ⟨by rw [HSC.out]; rfl, B2.out.trans (HB6.out.low.mono (Nat.le_of_lt hl2))⟩
      have her : er = 0 := by rw [HCE.out]; exact hcm
      have HCM := Lib.hid hcm
      clear HCE hcm
      subst her
      go_wp2_with fail
      refine HW.out.mono ?_
      rintro e w6 ⟨rfl, hb6⟩
      have HB6 := Lib.hid (HB5.out.below hb6)
      rw [if_pos rfl]
      clear hb6 HW HB5
      go_wp2_with fail
      refine (put_line HB6.out (capL cn) (by have := HLB.out.1; omega)).mono ?_
      rintro e w7 ⟨rfl, hbd7, hb7⟩
      have HB7 := Lib.hid hbd7
      have HBW7 := Lib.hid (B2.out.trans (hbd7.low.mono (Nat.le_of_lt hl2)))
      have r2 := (hbd7.low.cell (p := ⟨w.heap.size, 2, none⟩) hl2).trans X2.out.c2
      clear hbd7 hb7 q0 q1 q2 HB6 wc
      have b8 : Below w7.heap.size w7 (w7.alloc (.cells #[.string ⟨#[]⟩, .int .u64 (sn : Int), .slice none 0 0] 59)) := b_alloc _ _
      have HW := Lib.hid (num_write wSes (sesL sn) sn _ _ (by decide) rfl hsn (field1 w7 sn w7.heap.size rfl) (tab_keep HTT.out (bt HBW7.out b8)))
      have HB8 := Lib.hid (HB7.out.below b8)
      have hse := ses_check sn hsn
      have HSE := Lib.hid hse
      clear hse b8
      generalize checkOf (words (sesL sn)) wSes [115] = er at *
      by_cases hsm : sn ≤ 2147483647
      rotate_left
      · have her : er ≠ 0 := fun h => hsm (HSE.out ▸ h)
        have t5 : ((er : Int) != 0) = true := by rw [bne_iff_ne]; omega
        have hsc : scriptB ts (cn : Int) (sn : Int) es = false := by
          unfold scriptB
          rw [decide_eq_false (show ¬ ((sn : Int) ≤ 2147483647) by omega)]
          simp
        have HSC := Lib.hid hsc
        have HER := Lib.hid her
        clear hsc her hsm
        go_wp2_with fail
        refine HW.out.mono ?_
        rintro e w9 ⟨rfl, hb9⟩
        have HB9 := Lib.hid (HB8.out.below hb9)
        rw [if_neg HER.out]
        clear hb9
        go_wp2_with fail
        refine (put15_err _ (er : Int) _ w9 t5).mono ?_
        rintro e w10 ⟨rfl, rfl⟩
        go_wp2_with fail
        go_ret2
        exact ⟨by rw [HSC.out]; rfl, B2.out.trans (HB9.out.low.mono (Nat.le_of_lt hl2))⟩
      have her : er = 0 := by rw [HSE.out]; exact hsm
      have HSM := Lib.hid hsm
      clear HSE hsm
      subst her
      go_wp2_with fail
      refine HW.out.mono ?_
      rintro e w9 ⟨rfl, hb9⟩
      have HB9 := Lib.hid (HB8.out.below hb9)
      rw [if_pos rfl]
      clear hb9 HW HB8 HB7
      go_wp2_with fail
      refine (put_line HB9.out (sesL sn) (by have := HLB.out.2.1; omega)).mono ?_
      rintro e w10 ⟨rfl, hbd10, hb10⟩
      rw [← tx_snoc, ← tx_snoc, List.append_assoc] at hbd10
      have hbd10' : Bd w2 b (tx (ts.map tenL ++ [capL cn, sesL sn])) w10 := hbd10
      have HB10 := Lib.hid hbd10'
      have hm1 := HN.out.2
      clear hbd10 hbd10' hb10 r2 HB9 ws
      go_wp2_with fail
      have HTB := Lib.hid (tx_two ts cn sn hcn hsn k HR.out.2).2.2
      generalize hPre : ts.map tenL ++ [capL cn, sesL sn] = pre at *
      have HPre := Lib.hid hPre
      clear hPre HR HLB HBW HBW7 hcn hsn
      go_loopw [61] (fun v wr => ∃ j : Nat, j ≤ m ∧ v = .int .i64 (j : Int) ∧ Hid (Bd w2 b (tx (pre ++ (es.take j).map evL)) wr ∧ (tx (pre ++ (es.take j).map evL)).length ≤ k * 101 + 202 + j * 100000001 ∧ ∀ i (hi : i < es.length), i < j → (printOf es[i]).isSome = true)) (fun v _ => m - (intOf v).toNat)
      case atStart => exact ⟨0, by omega, rfl, Lib.hid ⟨by simpa using HB10.out, by simpa using HTB.out, fun i hi h => absurd h (by omega)⟩⟩
      case round =>
        obtain ⟨j, hjm, rfl, hr⟩ := hrel
        have hbw : Below w.heap.size w wr := B2.out.trans (hr.out.1.low.mono (Nat.le_of_lt hl2))
        by_cases hlt : j < m
        · have hl : j < es.length := by have := HNM.out.2; omega
          obtain ⟨g, o, rfl, hev⟩ := erow_at (HNM.out.2 ▸ HE.out.1) (by omega)
          obtain ⟨av, cv, hcr, p0, p1, p2, p3, p4, p5, p6, p7⟩ := ((hev j es[j] (List.getElem?_eq_getElem hl)).below hbw).load
          have hok := HE.out.2 es[j] (List.getElem_mem hl)
          have htk := take_map_snoc evL es j hl
          have hlen := evL_len es[j] hok.2
          have hpe : ∀ i (hi : i < es.length), i < j + 1 → (printOf es[j]).isSome = true → (printOf es[i]).isSome = true := fun i hi h hs => by
            by_cases e : i = j
            · subst e; exact hs
            · exact hr.out.2.2 i hi (by omega)
          have hbad : (printOf es[j]).isSome = false → scriptB ts (cn : Int) (sn : Int) es = false := fun h => by
            unfold scriptB allP
            rw [show (es.all fun e => (printOf e).isSome) = false from by
              rw [List.all_eq_false]
              exact ⟨es[j], List.getElem_mem hl, by rw [h]; simp⟩]
            simp
          have hevl : evL es[j] = (printOf es[j]).getD [] := rfl
          have HBD := Lib.hid hr.out.1
          have HLE := Lib.hid hr.out.2.1
          have HTK := Lib.hid htk
          have HLN := Lib.hid hlen
          have HPE := Lib.hid hpe
          have HBAD := Lib.hid hbad
          have HEV := Lib.hid hevl
          have HCR := Lib.hid hcr.row
          have HW0 := Lib.hid hbw
          clear hev hcr htk hlen hpe hbad hevl hr hbw
          generalize es[j] = e at *
          have wk : IntKind.i64.wrap ((j : Int) + 1) = (j : Int) + 1 := IntWalk.i64_in _ (by omega)
          have k0 : (0 : Int) ≤ (j : Int) := by omega
          have k1 : (j : Int) < (m : Int) := by omega
          have hpr : Hid (∀ W, Below wr.heap.size wr W → Calls Tryz.prog 19 #[evV e (.slice av e.data.length cv)] W fun r w' => r = .returned (.string (S (evL e))) ∧ Below W.heap.size W w') := Lib.hid fun W hW => by
            rw [HEV.out]
            exact evprint_any e _ W hok.1 hok.2.tenant hok.2.data (brow_below hW HCR.out) (tab_keep HTT.out (bt HW0.out hW))
          have hck : Hid (∀ W, Below wr.heap.size wr W → Calls Tryz.prog 20 #[evV e (.slice av e.data.length cv)] W fun r w' => r = .returned (.int .i64 (if (printOf e).isSome then 0 else 2)) ∧ Below W.heap.size W w') := Lib.hid fun W hW =>
            evcheck_any e _ W hok.1 hok.2.tenant hok.2.data (brow_below hW HCR.out) (tab_keep HTT.out (bt HW0.out hW))
          clear hok HEV
          go_wp2_with fail
          have hb : Below wr.heap.size wr (wr.alloc (.cells #[.int .i64 e.kind, .int .i64 e.session, .int .i64 e.stream, .string e.tenant, .int .u64 (e.n : Int), .int .i64 e.m, .int .u64 (e.bits : Int), .slice av e.data.length cv] 44)) := b_alloc _ _
          obtain ⟨x0, x1, x2, x3, x4, x5, x6, x7, xf⟩ := C8.new wr (.int .i64 e.kind) (.int .i64 e.session) (.int .i64 e.stream) (.string e.tenant) (.int .u64 (e.n : Int)) (.int .i64 e.m) (.int .u64 (e.bits : Int)) (.slice av e.data.length cv) 44
          clear xf p0 p1 p2 p3 p4 p5 p6 p7
          generalize wr.alloc (.cells #[.int .i64 e.kind, .int .i64 e.session, .int .i64 e.stream, .string e.tenant, .int .u64 (e.n : Int), .int .i64 e.m, .int .u64 (e.bits : Int), .slice av e.data.length cv] 44) = w3 at *
          have hb := hb.drew
          cases hs : (printOf e).isSome with
          | true =>
            have HS := Lib.hid hs
            rw [hs] at hck
            clear hs
            simp only [if_true] at hck
            go_region_with (first
              | (go_at_call 19; (with_reducible refine (hpr.out _ (by exact hb)).mono ?_); rintro r w9 ⟨rfl, hb9⟩; have x0 := keep_c hb9 x0; have x1 := keep_c hb9 x1; have x2 := keep_c hb9 x2; have x3 := keep_c hb9 x3; have x4 := keep_c hb9 x4; have x5 := keep_c hb9 x5; have x6 := keep_c hb9 x6; have x7 := keep_c hb9 x7; have hb := bt hb hb9; clear hb9)
              | (go_at_call 20; (with_reducible refine (hck.out _ (by exact hb)).mono ?_); rintro r w9 ⟨rfl, hb9⟩; have x0 := keep_c hb9 x0; have x1 := keep_c hb9 x1; have x2 := keep_c hb9 x2; have x3 := keep_c hb9 x3; have x4 := keep_c hb9 x4; have x5 := keep_c hb9 x5; have x6 := keep_c hb9 x6; have x7 := keep_c hb9 x7; have hb := bt hb hb9; clear hb9)
              | (go_at_call 15; refine (put_line (HBD.out.below (by exact hb)) (evL e) (by have := HLE.out; have := HLN.out; omega)).mono ?_; rintro r w9 ⟨rfl, hbd9, hlow9⟩; have X9 := Lib.hid hbd9; clear hbd9 hlow9))
            all_goals
              go_wp2
              go_roundw
              case rel =>
                refine ⟨j + 1, by omega, by go_num, Lib.hid ⟨?_, ?_, fun i hi h => HPE.out i hi h HS.out⟩⟩
                · rw [HTK.out, ← List.append_assoc, tx_snoc]; exact X9.out
                · rw [HTK.out, ← List.append_assoc, tx_len]; have := HLE.out; have := HLN.out; omega
              case measure => simp [intOf]; omega
          | false =>
            have HSC := Lib.hid (HBAD.out hs)
            rw [hs] at hck
            clear hs
            simp only [Bool.false_eq_true, if_false] at hck
            go_region_with (first
              | (go_at_call 19; (with_reducible refine (hpr.out _ (by exact hb)).mono ?_); rintro r w9 ⟨rfl, hb9⟩; have x0 := keep_c hb9 x0; have x1 := keep_c hb9 x1; have x2 := keep_c hb9 x2; have x3 := keep_c hb9 x3; have x4 := keep_c hb9 x4; have x5 := keep_c hb9 x5; have x6 := keep_c hb9 x6; have x7 := keep_c hb9 x7; have hb := bt hb hb9; clear hb9)
              | (go_at_call 20; (with_reducible refine (hck.out _ (by exact hb)).mono ?_); rintro r w9 ⟨rfl, hb9⟩; have x0 := keep_c hb9 x0; have x1 := keep_c hb9 x1; have x2 := keep_c hb9 x2; have x3 := keep_c hb9 x3; have x4 := keep_c hb9 x4; have x5 := keep_c hb9 x5; have x6 := keep_c hb9 x6; have x7 := keep_c hb9 x7; have hb := bt hb hb9; clear hb9)
              | (go_at_call 15; refine (put15_err _ 2 _ _ (by decide)).mono ?_; rintro r w9 ⟨rfl, rfl⟩))
            all_goals
              go_wp2
              go_ret2
              exact ⟨by rw [HSC.out]; rfl, bt HW0.out hb⟩
        · have hjm' : j = m := by omega
          subst hjm'
          have hfull : es.take j = es := List.take_of_length_le (by have := HNM.out.2; omega)
          have hall : scriptB ts (cn : Int) (sn : Int) es = true := by
            unfold scriptB allP
            rw [HCK0.out, decide_eq_true (show (cn : Int) ≤ 2147483647 by have := HCM.out; omega), decide_eq_true (show (sn : Int) ≤ 2147483647 by have := HSM.out; omega)]
            simp only [Bool.and_true, Bool.true_and, beq_self_eq_true, List.all_eq_true]
            intro e he
            obtain ⟨i, hi, rfl⟩ := List.getElem_of_mem he
            exact hr.out.2.2 i hi (by have := HNM.out.2; omega)
          have htx : tx (pre ++ (es.take j).map evL) = tx (linesL ts (cn : Int).toNat (sn : Int).toNat es) := by
            rw [hfull, ← HPre.out, Int.toNat_natCast, Int.toNat_natCast]
            rfl
          have hbd := hr.out.1
          rw [htx] at hbd
          have HALL := Lib.hid hall
          have HBD := Lib.hid hbd
          clear hfull hall htx hbd hr hbw
          generalize hTX : tx (linesL ts (cn : Int).toNat (sn : Int).toNat es) = txt at *
          have HTX := Lib.hid hTX
          clear hTX
          go_wp2_with fail
          refine (Tryz.Builder_String_any b b txt wr (by exact HBD.out.is) (Nat.le_of_lt HBD.out.lt)).mono ?_
          rintro r w9 ⟨rfl, hb9⟩
          have HF := Lib.hid (B2.out.trans ((low_tr HBD.out.low hb9).mono (Nat.le_of_lt hl2)))
          clear hb9
          go_wp2
          go_ret2
          exact ⟨by rw [HALL.out, HTX.out]; rfl, HF.out⟩
end Go.Proofs.YtinabbdecmjcpaaGreatDoor.Script
