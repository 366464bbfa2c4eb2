/- NameBytes: for every list of bytes and every text the law returns true, and both read afterwards as before. -/
import Derived.Test.YtinabbdecmjcpaaRows
import Derived.WalkKit
import Derived.ProofKit
import Derived.OpenShut
import Derived.ShutString
import Derived.ChangeOld
import Derived.Below
import Derived.Test.YtinabbdecmjcpaaAwake07
namespace Go.Proofs.Ytinabbdecmjcpaa.nameBytes
open Go.ChangeShapes Go.WideShapes Go.ChangeAt Go.RowKit
open Go.ChangeMaps (open_string shut_string)
open Go.Proofs.Ytinabbdecmjcpaa.Plain Go.Proofs.Ytinabbdecmjcpaa.Words Go.Proofs.Ytinabbdecmjcpaa.Hex
set_option linter.unusedVariables false

theorem own : ownKnob Try.prog.godebug = none := by kernel_rfl
theorem laidOut : laidOutB Try.prog = true := by kernel_rfl

/-- What the walk is told of a slice of integers that came in. -/
def IsRow (k : IntKind) (w : World) (a : Option Addr) (len cap : Nat) (zs : List Int) : Prop :=
  (a = none ∧ len = 0 ∧ cap = 0 ∧ zs = []) ∨
  ∃ x, a = some x ∧ len ≤ cap ∧ cap ≤ maxLen ∧ zs.length = cap ∧ (∀ i, i < zs.length → w.cell? (x.add i) = some (.int k (zs.getD i 0))) ∧ ∀ n ∈ zs, (Lit.int k n).wf = true

theorem of_isRow {w : World} {a : Option Addr} {len cap : Nat} {zs : List Int} (h : IsRow .u8 w a len cap zs) : ∃ l : List UInt8, l.length = len ∧ BRow w (.slice a len cap) l := by
  rcases h with ⟨rfl, rfl, rfl, rfl⟩ | ⟨⟨b, off, spot⟩, rfl, hl, hm, hz, hcell, hwf⟩
  · exact ⟨[], rfl, .inl ⟨rfl, _, _, rfl⟩⟩
  · by_cases h0 : len = 0
    · subst h0
      exact ⟨[], rfl, .inl ⟨rfl, _, _, rfl⟩⟩
    · have hc0 := hcell 0 (by omega)
      have hspot : spot = none := by simpa [Addr.add] using World.cell?_spot hc0
      subst hspot
      refine ⟨(zs.take len).map fun z => UInt8.ofNat z.toNat, by simp; omega, .inr ⟨b, off, cap, by simp; omega, by have := World.block_lt_of_cell? _ _ hc0; simpa [Addr.add] using this, fun i hi => ?_⟩⟩
      have hi' : i < len := by simp at hi; omega
      have hiz : i < zs.length := by omega
      have h1 := hcell i hiz
      rw [addr_add] at h1
      rw [h1]
      have hmem : zs.getD i 0 ∈ zs := by rw [List.getD_eq_getElem?_getD, List.getElem?_eq_getElem hiz]; exact List.getElem_mem hiz
      obtain ⟨q0, q1⟩ := bounds_u8 (hwf _ hmem)
      have e : zs.getD i 0 = zs[i] := by rw [List.getD_eq_getElem?_getD, List.getElem?_eq_getElem hiz]; rfl
      rw [e] at q0 q1 ⊢
      simp [bv, UInt8.toNat_ofNat']
      omega

set_option maxRecDepth 100000 in
set_option maxHeartbeats 1000000 in
theorem walk (l : List UInt8) (v : Value) (s : ByteArray) (w : World) (hv : BRow w v l) (hl : l.length ≤ maxLen) (hs : s.size ≤ maxLen) :
    Calls Try.prog 3 #[v, .string s] w fun e w' => e = .returned (.bool true) ∧ Below w.heap.size w w' := by
  unfold maxLen at hl hs
  obtain ⟨a, cap, rfl⟩ := brow_form hv
  have HV := Lib.hid hv
  clear hv
  by_cases hbig : 300 < l.length
  · go_enter Try.func3, Try.ntmps3
    go_wp2_with fail
    refine (awake07 _).mono ?_
    rintro e w2 ⟨rfl, hb1⟩
    go_wp2
    go_ret
    exact ⟨rfl, hb1⟩
  · by_cases hbig2 : 300 < s.size
    · go_enter Try.func3, Try.ntmps3
      go_wp2_with fail
      refine (awake07 _).mono ?_
      rintro e w2 ⟨rfl, hb1⟩
      go_wp2
      go_ret
      exact ⟨rfl, hb1⟩
    · go_enter Try.func3, Try.ntmps3
      go_wp2_with fail
      refine (hex_any l _ w (by omega) HV.out).mono ?_
      rintro e w1 ⟨rfl, hb1⟩
      have s1 := hb1.size
      have hhl : (S (hexOf l)).size ≤ 1000000000000 := by
        show (hexOf l).toArray.size ≤ _
        unfold hexOf
        split
        · simp
        · simp [hexs_len]; omega
      go_wp2_with fail
      refine (bytes_any (S (hexOf l)) w1 hhl).mono ?_
      rintro e w2 ⟨x, n, rfl, hb2, hc2⟩
      have s2 := hb2.size
      obtain ⟨rfl, hx⟩ : n = 0 ∧ Bys w2 w1.heap.size x l := by
        have e0 : bytesOf (L (S (hexOf l))) = some l := bytesOf_hexOf l
        rcases hc2 with ⟨h, _⟩ | ⟨l', h, rfl, hby⟩
        · rw [e0] at h; cases h
        · rw [e0] at h; cases h; exact ⟨rfl, hby⟩
      have HX := Lib.hid (bys_row hx)
      clear hx hc2
      go_wp2_with fail
      refine (bytes_any s w2 (by omega)).mono ?_
      rintro e w3 ⟨y, m, rfl, hb3, hc3⟩
      have s3 := hb3.size
      have b3 : Below w.heap.size w w3 := (hb1.trans (hb2.mono s1)).trans (hb3.mono (by omega))
      have HV3 := Lib.hid (brow_below b3 HV.out)
      have HX3 := Lib.hid (brow_below hb3 HX.out)
      have HC3 := Lib.hid hc3
      clear hc3
      go_wp2_with fail
      refine (hex_any l _ w3 (by omega) HV3.out).mono ?_
      rintro e w4 ⟨rfl, hb4⟩
      have s4 := hb4.size
      go_wp2_with fail
      refine (refhex_any l _ w4 (by omega) (brow_below hb4 HV3.out)).mono ?_
      rintro e w5 ⟨rfl, hb5⟩
      have s5 := hb5.size
      have b5 : Below w3.heap.size w3 w5 := hb4.trans (hb5.mono s4)
      go_wp2_with fail
      refine (same_any l l x _ w5 (by omega) (by omega) (brow_below b5 HX3.out) (brow_below b5 HV3.out)).mono ?_
      rintro e w6 ⟨rfl, hb6⟩
      have s6 := hb6.size
      rw [decide_eq_true (rfl : l = l)]
      have b6 : Below w3.heap.size w3 w6 := b5.trans (hb6.mono (by omega))
      go_wp2_with fail
      refine (hexes_any s w6 (by omega)).mono ?_
      rintro e w7 ⟨rfl, rfl⟩
      have s36 := b6.size
      have bw : Below w.heap.size w w6 := b3.trans (b6.mono (by omega))
      have s06 := bw.size
      rw [hexesB_eq]
      rcases HC3.out with ⟨h, rfl, rfl⟩ | ⟨l', h, rfl, hby⟩
      · rw [h, show (Option.isSome (none : Option (List UInt8))) = false from rfl]
        clear HC3
        go_wp2_with fail
        refine (awake07 _).mono ?_
        rintro e w8 ⟨rfl, hb8⟩
        go_wp2
        go_ret
        exact ⟨rfl, bw.trans (hb8.mono s06)⟩
      · have e1 := hexOf_bytesOf _ _ h
        rw [h, show (Option.isSome (some l')) = true from rfl]
        have hl' : l'.length ≤ 1000000000000 := by
          have := congrArg List.length e1
          rw [L_len] at this
          unfold hexOf at this
          split at this
          · rename_i h0; rw [h0]; simp
          · rw [hexs_len] at this; omega
        have HY := Lib.hid (brow_below b6 (bys_row hby))
        have E1 := Lib.hid e1
        clear HC3 h e1 hby
        go_wp2_with fail
        refine (refhex_any l' _ w6 hl' HY.out).mono ?_
        rintro e w8 ⟨rfl, hb8⟩
        have s8 := hb8.size
        rw [E1.out, S_L]
        go_wp2_with fail
        refine (awake07 _).mono ?_
        rintro e w9 ⟨rfl, hb9⟩
        go_wp2
        go_ret
        exact ⟨rfl, (bw.trans (hb8.mono s06)).trans (hb9.mono (by omega))⟩

set_option maxRecDepth 100000 in
theorem lifted (os : Os) (started : os.Started) (H : Type) (enc : TypeId × Value → H) :
    ReturnsInHanded {} Try.checked os 3 .any (Rows.nameBytesSpec.pre6 enc Try.prog Try.f3 Rows.nameBytesRow.domain false) (Rows.nameBytesSpec.post enc Try.prog Try.f3 false true false false) := by
  refine returnsInHanded_of_change (C := Try.checked) own started (by kernel_rfl) Try.func3
    (ChangeSpec.witness6 (enc := enc) (C := Try.checked) false ⟨#[], #[.slice none 0 0, .string ByteArray.empty], []⟩ 8 (by kernel_rfl) (by kernel_rfl) (by kernel_rfl) (by kernel_rfl)) ?_
  intro W base args ds gs before hval0 hW hcnd _
  have hval : ∀ (j : Nat) t v, Try.f3.params[j]? = some t → args[j]? = some v → Value.okWide Try.prog W .any base t v := hval0
  have hW' := hW
  obtain ⟨p, q, hA0, hV, rfl, hfz, hnd⟩ := hW
  have hA : DataW.TrodAll enc Try.prog W 0 (fun _ => true) true Try.f3.params.toList args.toList ds p := hA0
  rw [Try.params3] at hA hval
  obtain ⟨v0, vs0, d0, ds0, p0, q0, hargs, rfl, rfl, h0, r0⟩ := trodAll_cons hA
  obtain ⟨v1, vs1, d1, ds1, p1, q1, rfl, rfl, rfl, h1, r1⟩ := trodAll_cons r0
  obtain ⟨rfl, rfl, rfl⟩ := trodAll_nil r1
  obtain rfl : args = #[v0, v1] := by cases args; simp_all
  obtain ⟨rfl, rfl⟩ := trodVars_none hV
  have k0 := h0
  have lt0 : ∀ x ∈ p0, x.block < W.heap.size := by obtain ⟨m, hm⟩ := k0; exact DataW.trod_lt m _ _ _ hm
  have k1 := h1
  have lt1 : ∀ x ∈ p1, x.block < W.heap.size := by obtain ⟨m, hm⟩ := k1; exact DataW.trod_lt m _ _ _ hm
  obtain ⟨a0, len0, cap0, rfl⟩ := okWide_slice Try.underlying22 (hval 0 22 v0 rfl rfl)
  obtain ⟨z0, w0⟩ : ∃ zs, IsRow .u8 W a0 len0 cap0 zs := by
    obtain ⟨fuel, hf⟩ := h0
    rcases open_ints Try.underlying22 Try.underlying5 (by kernel_rfl) hf with ⟨hcs, _⟩ | ⟨x, l, c, zs, hcs, _, hl, hm, hz, _, hcell, hwz⟩
    · simp [Value.cells] at hcs
      obtain ⟨rfl, rfl, rfl⟩ := hcs
      exact ⟨[], .inl ⟨rfl, rfl, rfl, rfl⟩⟩
    · simp [Value.cells] at hcs
      obtain ⟨rfl, rfl, rfl⟩ := hcs
      exact ⟨zs, .inr ⟨_, rfl, hl, hm, by simpa using hz, hcell, hwz⟩⟩
  have wl : len0 ≤ maxLen := by
    rcases w0 with ⟨_, rfl, _⟩ | ⟨_, _, h1, h2, _⟩
    · exact Nat.zero_le _
    · omega
  obtain ⟨l, rfl, hrow⟩ := of_isRow w0
  obtain ⟨a1, rfl, rfl, rfl, w1⟩ := open_string Try.underlying9 (hval 1 9 v1 rfl rfl) h1
  clear hA0 hval0
  refine (walk l _ a1 W hrow wl w1).mono fun e W' ⟨he, bel⟩ => ?_
  subst he
  exact ⟨_, rfl, _, _, _, [], _, [], hW', trodAll_mk1 (shut_bool Try.underlying4 _), (trodAll_cons_mk (Below.trod laidOut (by kernel_rfl) (of_decide_eq_true (by kernel_rfl)) k0 bel lt0) (trodAll_cons_mk (Below.trod laidOut (by kernel_rfl) (of_decide_eq_true (by kernel_rfl)) k1 bel lt1) trodAll_mk0)), rfl, bel.frame _, fun h => by cases h⟩

theorem over : Rows.nameBytesRow.holds Try.pinned (OpenSpec.ofChange Rows.nameBytesSpec) :=
  OpenClaim.holds_of_wide 3 Try.f3 rfl rfl rfl rfl rfl rfl rfl ⟨rfl, rfl, rfl, rfl, rfl⟩ rfl rfl rfl rfl rfl (by kernel_rfl) Try.func3 (by kernel_rfl)
    (of_decide_eq_true (by kernel_rfl)) (by unfold Func.isWrapper; first | (rw [if_pos (by decide +kernel)]; kernel_rfl) | (rw [if_neg (by decide +kernel)]; exact ⟨rfl, rfl⟩))
    (fun os started H enc _ => lifted os started H enc)

theorem proved : Rows.NameBytesSaid := over
#print axioms proved
end Go.Proofs.Ytinabbdecmjcpaa.nameBytes
