/- Contracts of name.Bytes, of the reference's Hex, Hexes, Same: what each answers, by the plain functions; nothing that was there is changed. -/
import Derived.Test.YtinabbdecmjcpaaDoorHex
namespace Go.Proofs.YtinabbdecmjcpaaDoor.Hex
open Go.RowKit Go.Proofs.YtinabbdecmjcpaaDoor.Plain Go.Proofs.YtinabbdecmjcpaaDoor.Words Go.Proofs.YtinabbdecmjcpaaDoor.Named
set_option linter.unusedVariables false

theorem nibble_yes (r x : Nat) (w : World) (h : nib r = some x) : Calls Tryd.prog 36 #[.int .i32 (r : Int)] w fun e w' => e = .returned (.tuple #[.int .u8 (x : Int), .bool true]) ∧ w = w' := by
  unfold nib at h
  split at h
  · rename_i h1
    obtain ⟨a, b⟩ := h1
    cases h
    have hd := Lib.hid (digit_any (r : Int))
    have hb : digitB (r : Int) = true := by simp [digitB]; omega
    have HB := Lib.hid hb
    clear hb
    have e1 : ((r - 48 : Nat) : Int) = (r : Int) - 48 := by omega
    rw [e1]
    clear e1
    go_enter Tryd.func36, Tryd.ntmps36
    go_wp2_with (go_at_call 20; refine (hd.out _).mono ?_; rintro e w' ⟨rfl, rfl⟩; rw [HB.out])
    go_ret2
    exact ⟨rfl, rfl⟩
  · split at h
    · rename_i h1 h2
      obtain ⟨a, b⟩ := h2
      cases h
      clear h1
      have hd := Lib.hid (digit_any (r : Int))
      have hb : digitB (r : Int) = false := by simp [digitB]; omega
      have HB := Lib.hid hb
      clear hb
      have e1 : ((r - 87 : Nat) : Int) = (r : Int) - 97 + 10 := by omega
      rw [e1]
      clear e1
      go_enter Tryd.func36, Tryd.ntmps36
      go_wp2_with (go_at_call 20; refine (hd.out _).mono ?_; rintro e w' ⟨rfl, rfl⟩; rw [HB.out])
      go_ret2
      exact ⟨rfl, rfl⟩
    · cases h

theorem nibble_no (r : Nat) (w : World) (h : nib r = none) : Calls Tryd.prog 36 #[.int .i32 (r : Int)] w fun e w' => e = .returned (.tuple #[.int .u8 0, .bool false]) ∧ w = w' := by
  unfold nib at h
  split at h
  · cases h
  · split at h
    · cases h
    · rename_i h1 h2
      clear h
      have hd := Lib.hid (digit_any (r : Int))
      have hb : digitB (r : Int) = false := by simp [digitB]; omega
      have HB := Lib.hid hb
      clear hb
      by_cases a : 97 ≤ (r : Int)
      · have hx : decide ((r : Int) ≤ 102) = false := by simp; omega
        clear h1 h2
        go_enter Tryd.func36, Tryd.ntmps36
        go_wp2_with (go_at_call 20; refine (hd.out _).mono ?_; rintro e w' ⟨rfl, rfl⟩; rw [HB.out])
        go_ret2
        exact ⟨rfl, rfl⟩
      · have hx : decide (97 ≤ (r : Int)) = false := by simp; omega
        clear h1 h2
        go_enter Tryd.func36, Tryd.ntmps36
        go_wp2_with (go_at_call 20; refine (hd.out _).mono ?_; rintro e w' ⟨rfl, rfl⟩; rw [HB.out])
        go_ret2
        exact ⟨rfl, rfl⟩

/-- What name.Bytes answers. -/
def BytesPost (r : Option (List UInt8)) (w : World) (e : Ending) (w' : World) : Prop :=
  ∃ (v : Value) (n : Int), e = .returned (.tuple #[v, .int .i64 n]) ∧ Below w.heap.size w w' ∧ ((r = none ∧ v = .slice none 0 0 ∧ n = 2) ∨ (∃ l, r = some l ∧ n = 0 ∧ Bys w' w.heap.size v l))

/-- The number of the digit at a place. -/
def nv (s : ByteArray) (i : Nat) : Nat := (nib (s.get! i).toNat).getD 0
/-- What the bytes are when the digits ahead of 'pos' have been taken. -/
def outAt (s : ByteArray) (pos j : Nat) : Nat := if 2 * j + 1 < pos then 16 * nv s (2 * j) + nv s (2 * j + 1) else if 2 * j < pos then nv s (2 * j) else 0

theorem nv_lt (s : ByteArray) (i : Nat) : nv s i < 16 := by
  unfold nv
  cases h : nib (s.get! i).toNat with
  | none => simp
  | some x => simpa using nib_lt h
theorem outAt_lt (s : ByteArray) (pos j : Nat) : outAt s pos j < 256 := by
  have a := nv_lt s (2 * j)
  have b := nv_lt s (2 * j + 1)
  unfold outAt
  split
  · omega
  · split <;> omega
/-- All that were taken are digits. -/
def Digs (s : ByteArray) (pos : Nat) : Prop := ∀ i, i < pos → ∀ h : i < s.size, (nib (s[i]'h).toNat).isSome = true

theorem outAt_step (s : ByteArray) (pos : Nat) : outAt s pos (pos / 2) < 16 ∧ outAt s (pos + 1) (pos / 2) = 16 * outAt s pos (pos / 2) + nv s pos ∧ ∀ j, j ≠ pos / 2 → outAt s (pos + 1) j = outAt s pos j := by
  have a := nv_lt s pos
  have b := nv_lt s (2 * (pos / 2))
  refine ⟨?_, ?_, ?_⟩
  · unfold outAt
    rw [if_neg (by omega)]
    split <;> omega
  · unfold outAt
    by_cases h : pos % 2 = 0
    · rw [if_neg (by omega), if_pos (by omega), if_neg (by omega), if_neg (by omega), show 2 * (pos / 2) = pos by omega]
      omega
    · rw [if_pos (by omega), if_neg (by omega), if_pos (by omega), show 2 * (pos / 2) + 1 = pos by omega]
  · intro j hj
    unfold outAt
    by_cases h1 : 2 * j + 1 < pos
    · rw [if_pos (by omega), if_pos h1]
    · rw [if_neg (by omega), if_neg h1]
      by_cases h2 : 2 * j < pos
      · rw [if_pos (by omega), if_pos h2]
      · rw [if_neg (by omega), if_neg h2]

/-- The cells. -/
def outs (s : ByteArray) (pos n : Nat) : List Value := (List.range n).map fun j => .int .u8 (outAt s pos j : Int)
theorem outs_len (s : ByteArray) (pos n : Nat) : (outs s pos n).length = n := by simp [outs]
theorem outs_get (s : ByteArray) (pos n j : Nat) (h : j < n) : (outs s pos n)[j]? = some (.int .u8 (outAt s pos j : Int)) := by simp [outs, h]
theorem outs_zero (s : ByteArray) (n : Nat) : outs s 0 n = List.replicate n (.int .u8 0) := by
  apply List.ext_getElem?
  intro j
  by_cases h : j < n
  · rw [outs_get s 0 n j h, List.getElem?_replicate, if_pos h]; simp [outAt]
  · rw [List.getElem?_eq_none (by rw [outs_len]; omega), List.getElem?_eq_none (by simp; omega)]
theorem outs_set (s : ByteArray) (pos n : Nat) : (outs s pos n).set (pos / 2) (.int .u8 ((16 * outAt s pos (pos / 2) + nv s pos : Nat) : Int)) = outs s (pos + 1) n := by
  obtain ⟨_, h1, h2⟩ := outAt_step s pos
  apply List.ext_getElem?
  intro j
  by_cases hj : j < n
  · rw [outs_get s (pos + 1) n j hj, List.getElem?_set]
    by_cases e : pos / 2 = j
    · subst e
      rw [if_pos rfl, if_pos (by rw [outs_len]; exact hj), h1]
    · rw [if_neg e, outs_get s pos n j hj, h2 j (fun x => e x.symm)]
  · rw [List.getElem?_eq_none (by rw [List.length_set, outs_len]; omega), List.getElem?_eq_none (by rw [outs_len]; omega)]

theorem get!_eq (s : ByteArray) (i : Nat) (h : i < s.size) : s.get! i = s[i]'h := by simp [ByteArray.get!, getElem!_pos, h]; rfl

theorem unhex_at : ∀ (n i : Nat) (s : ByteArray), i + 2 * n = s.size → (∀ j, i ≤ j → ∀ h : j < s.size, (nib (s[j]'h).toNat).isSome = true) → unhex ((L s).drop i) = some ((List.range n).map fun j => UInt8.ofNat (16 * nv s (i + 2 * j) + nv s (i + 2 * j + 1)))
  | 0, i, s, hi, hd => by
    rw [show (L s).drop i = [] by rw [List.drop_eq_nil_iff, L_len]; omega]
    rfl
  | n + 1, i, s, hi, hd => by
    have ih := unhex_at n (i + 2) s (by omega) (fun j hj h => hd j (by omega) h)
    have h1 : i < s.size := by omega
    have h2 : i + 1 < s.size := by omega
    rw [drop_cons s i h1, drop_cons s (i + 1) h2, unhex, ih]
    have d1 := hd i (by omega) h1
    have d2 := hd (i + 1) (by omega) h2
    obtain ⟨x, hx⟩ := Option.isSome_iff_exists.1 d1
    obtain ⟨y, hy⟩ := Option.isSome_iff_exists.1 d2
    rw [hx, hy]
    have e1 : nv s i = x := by unfold nv; rw [get!_eq s i h1, hx]; rfl
    have e2 : nv s (i + 1) = y := by unfold nv; rw [get!_eq s (i + 1) h2, hy]; rfl
    dsimp only
    rw [List.range_succ_eq_map, List.map_cons, List.map_map]
    simp only [Nat.mul_zero, Nat.add_zero, e1, e2]
    congr 2
    apply List.map_congr_left
    intro j _
    simp only [Function.comp]
    rw [show i + 2 * (j + 1) = i + 2 + 2 * j by omega]

theorem bytes_end (s : ByteArray) (h0 : 0 < s.size) (he : s.size % 2 = 0) (hd : Digs s s.size) :
    ∃ l, bytesOf (L s) = some l ∧ l.length = s.size / 2 ∧ l.map bv = outs s s.size (s.size / 2) := by
  have h45 : L s ≠ [45] := by
    intro e
    have := L_len s
    rw [e] at this
    simp at this
    omega
  have hne : L s ≠ [] := by
    intro e
    have := L_len s
    rw [e] at this
    simp at this
    omega
  have hu := unhex_at (s.size / 2) 0 s (by omega) (fun j _ h => hd j h h)
  refine ⟨_, by unfold bytesOf; rw [if_neg h45, if_neg hne]; simpa using hu, by simp, ?_⟩
  apply List.ext_getElem?
  intro j
  by_cases hj : j < s.size / 2
  · rw [outs_get s s.size _ j hj]
    simp only [List.getElem?_map, List.getElem?_range hj, Option.map_some]
    have a := nv_lt s (2 * j)
    have b := nv_lt s (2 * j + 1)
    unfold outAt
    rw [if_pos (by omega)]
    simp [bv, UInt8.toNat_ofNat']
    omega
  · rw [List.getElem?_eq_none (by simp; omega), List.getElem?_eq_none (by rw [outs_len]; omega)]

theorem bytes_bad (s : ByteArray) (h0 : 1 < s.size) (pos : Nat) (hp : pos < s.size) (hn : nib (s[pos]'hp).toNat = none) : bytesOf (L s) = none := by
  have h : hexesB (L s) = false := by
    unfold hexesB
    have h45 : L s ≠ [45] := by
      intro e
      have := L_len s
      rw [e] at this
      simp at this
      omega
    have hall : (L s).all (fun c => (nib c.toNat).isSome) = false := by
      rw [Bool.eq_false_iff]
      intro e
      rw [List.all_eq_true] at e
      have := e _ (List.mem_of_getElem? (get_L s pos hp))
      rw [hn] at this
      cases this
    rw [decide_eq_false h45, hall]
    simp
  rw [hexesB_eq] at h
  cases hb : bytesOf (L s) with
  | none => rfl
  | some x => rw [hb] at h; cases h

theorem nib_high (n : Nat) (h : 128 ≤ n) : nib n = none := by unfold nib; rw [if_neg (by omega), if_neg (by omega)]

theorem own_iterAt {w : World} {B K e n cap : Nat} {xs : List Value} {s : ByteArray} {pos : Nat} (h : w.ownsRow B e 1 (.slice (some ⟨B, 0, none⟩) n cap) n xs) (hne : B ≠ K) : (w.iterAt K s pos).ownsRow B e 1 (.slice (some ⟨B, 0, none⟩) n cap) n xs := by
  obtain ⟨h1, h2⟩ := h
  refine ⟨h1, ?_⟩
  rcases h2 with ⟨h2, _⟩ | ⟨g, c, cur, a, b, d, r⟩
  · cases h2
  · cases a
    exact .inr ⟨_, _, cur, rfl, b, by rw [Lib.iterAt_other _ _ _ _ _ hne]; exact d, r⟩

/-- One rune more, beside a row of the call's own. -/
theorem next_byte {P : Program} {w wr : World} {s : ByteArray} {pos B K n cap e : Nat} {xs : List Value} (hp : pos < s.size) (hit : wr.heap[K]? = some (.stringIter s pos)) (hown : wr.ownsRow B e 1 (.slice (some ⟨B, 0, none⟩) n cap) n xs) (hbel : Below B w wr) (hK : B < K) :
    ∃ (r k : Nat) (W1 : World), (∀ ty, (Instr.next (.pointer (some ⟨K, 0, none⟩)) true ty).run P wr = .ok (.tuple #[.bool true, .int .i64 pos, .int .i32 r]) W1) ∧ W1.heap[K]? = some (.stringIter s (pos + k)) ∧ W1.ownsRow B e 1 (.slice (some ⟨B, 0, none⟩) n cap) n xs ∧ Below B w W1 ∧ r ≤ 2147483647 ∧
      ((r = (s[pos]'hp).toNat ∧ k = 1) ∨ (128 ≤ r ∧ 128 ≤ (s[pos]'hp).toNat)) := by
  refine ⟨(Utf8.decode s pos).1, (Utf8.decode s pos).2, wr.iterAt K s (pos + (Utf8.decode s pos).2), fun ty => Lib.run_next_any_at wr K s pos ty hit hp, Lib.iterAt_heap wr K s pos _ hit, own_iterAt hown (by omega), Lib.below_iterAt hbel (by omega) s _, decode_le s pos, ?_⟩
  by_cases hc : (s[pos]'hp).toNat < 128
  · rw [decode_ascii s pos hp hc]
    exact .inl ⟨rfl, rfl⟩
  · exact .inr ⟨(decode_high s pos hp (by omega)).1, by omega⟩

theorem bytes_dash (w : World) : Calls Tryd.prog 18 #[.string ⟨#[45]⟩] w (BytesPost (some []) w) := by
  go_enter Tryd.func18, Tryd.ntmps18
  go_wp2
  go_ret2
  exact ⟨_, _, rfl, Below.refl _ _, .inr ⟨[], rfl, rfl, World.ownsRow_nil _ _ _ _⟩⟩

theorem dash_no (s : ByteArray) (h : L s ≠ [45]) : (s.toList == [45]) = false := by
  rw [ByteArray.toList_eq]
  simpa using h

theorem bytes_odd (s : ByteArray) (w : World) (hs : s.size ≤ 1000000000000) (h : L s ≠ [45]) (ho : s.size = 0 ∨ s.size % 2 ≠ 0) : Calls Tryd.prog 18 #[.string s] w (BytesPost none w) := by
  have hd := dash_no s h
  by_cases h0 : s.size = 0
  · have e : s = ⟨#[]⟩ := by
      have := L_len s
      rw [← S_L s, List.length_eq_zero_iff.1 (by omega : (L s).length = 0)]
    subst e
    clear h ho hd
    go_enter Tryd.func18, Tryd.ntmps18
    go_wp2
    go_ret2
    exact ⟨_, _, rfl, Below.refl _ _, .inl ⟨rfl, rfl, rfl⟩⟩
  · have ho' : s.size % 2 = 1 := by omega
    obtain ⟨e1, e2⟩ := empty_no s (by omega)
    have hb : (((s.size : Int) % 2) != 0) = true := by rw [bne_iff_ne]; omega
    clear h ho ho'
    go_enter Tryd.func18, Tryd.ntmps18
    go_wp2
    go_ret2
    exact ⟨_, _, rfl, Below.refl _ _, .inl ⟨rfl, rfl, rfl⟩⟩

set_option maxRecDepth 100000 in
set_option maxHeartbeats 1000000 in
theorem bytes_more (s : ByteArray) (w : World) (h0 : 0 < s.size) (he : s.size % 2 = 0) (hs : s.size ≤ 1000000000000) : Calls Tryd.prog 18 #[.string s] w (BytesPost (bytesOf (L s)) w) := by
  obtain ⟨i0, hi, hz0, hz1, hz2⟩ := info_parts info5
  have h45 : L s ≠ [45] := by
    intro e
    have := L_len s
    rw [e] at this
    simp at this
    omega
  have hd := dash_no s h45
  obtain ⟨e1, e2⟩ := empty_no s h0
  have hb : (((s.size : Int) % 2) != 0) = false := by rw [bne_eq_false_iff_eq]; omega
  clear h45
  obtain ⟨R, hR⟩ : ∃ R, R = bytesOf (L s) := ⟨_, rfl⟩
  rw [← hR]
  have HR := Lib.hid hR
  have HE := Lib.hid he
  clear hR he
  have hn1 : s.size / 2 ≤ s.size := by omega
  go_enter Tryd.func18, Tryd.ntmps18
  go_wp2_with (at_make; refine wpList_make_full _ rfl _ _ 29 rfl w.heap.size 5 i0 (.int .u8 0) 1 Tryd.underlying29 hi hz0 hz1 .i64 .i64 _ _ (s.size / 2) rfl rfl (by omega) (by omega) (by rw [hz2]; omega) (by unfold maxLen; omega) (Nat.le_refl _) ?_; intro w1 hown1 hgrow1)
  have hbel1 : Below w.heap.size w w1 := (Below.refl _ _).grown hgrow1 (Nat.le_refl _) (fun k hk => by cases hk)
  have hsz1 : w.heap.size < w1.heap.size := by
    rcases hown1.2 with ⟨h, _⟩ | ⟨g, c, cur, a, b, d, r⟩
    · cases h
    · cases a; exact lt_of_block d
  have hown2 : (w1.iter s 0).ownsRow w.heap.size 5 1 (.slice (some ⟨w.heap.size, 0, none⟩) (s.size / 2) (s.size / 2)) (s.size / 2) (outs s 0 (s.size / 2)) := by
    rw [outs_zero, ← toList_madeCells_one]
    rw [show s.size / 2 * 1 = s.size / 2 by omega] at hown1
    exact World.ownsRow.alloc hown1 _
  clear hgrow1 hown1
  go_loopw [] (fun wr => ∃ pos : Nat, pos ≤ s.size ∧ wr.heap[w1.heap.size]? = some (.stringIter s pos) ∧ wr.ownsRow w.heap.size 5 1 (.slice (some ⟨w.heap.size, 0, none⟩) (s.size / 2) (s.size / 2)) (s.size / 2) (outs s pos (s.size / 2)) ∧ Below w.heap.size w wr ∧ Hid (Digs s pos)) (fun wr => s.size - wr.iterPos w1.heap.size)
  case atStart => exact ⟨0, by omega, World.iter_heap w1 s 0, hown2, hbel1.alloc (by omega) _, Lib.hid (fun i hi => absurd hi (by omega))⟩
  case round =>
    clear hown2 hbel1
    obtain ⟨pos, hps, hit, hown, hbel, HD⟩ := hrel
    have hpos0 := iterPos_of hit
    generalize w1.heap.size = K at *
    by_cases hp : pos < s.size
    · obtain ⟨r, k, W1, hnx, hit2, hown2, hbel2, hr1, hcase⟩ := next_byte (P := Tryd.prog) hp hit hown hbel hsz1
      clear hit hown hbel
      cases hnr : nib r with
      | none =>
        have hbad : nib (s[pos]'hp).toNat = none := by
          rcases hcase with ⟨h1, _⟩ | ⟨_, h2⟩
          · rw [← h1]; exact hnr
          · exact nib_high _ h2
        have HB := Lib.hid hbad
        have HNR := Lib.hid hnr
        clear hbad hnr hcase
        go_wp2_with (go_at_call 36; refine (nibble_no _ _ HNR.out).mono ?_; rintro e w' ⟨rfl, rfl⟩)
        go_ret2
        exact ⟨_, _, rfl, hbel2, .inl ⟨by rw [HR.out]; exact bytes_bad s (by have := HE.out; omega) pos hp HB.out, rfl, rfl⟩⟩
      | some x =>
        obtain ⟨hrc, rfl⟩ : r = (s[pos]'hp).toNat ∧ k = 1 := by
          rcases hcase with h | ⟨h1, _⟩
          · exact h
          · rw [nib_high _ h1] at hnr; cases hnr
        have hx : nv s pos = x := by unfold nv; rw [get!_eq s pos hp, ← hrc, hnr]; rfl
        have hx16 := nib_lt hnr
        have HRC := Lib.hid hrc
        have HNR := Lib.hid hnr
        have HX := Lib.hid hx
        clear hrc hnr hx hcase
        have hj : pos / 2 < s.size / 2 := by have := HE.out; omega
        have hcl : W1.cell? ⟨w.heap.size, pos / 2, none⟩ = some (.int .u8 (outAt s pos (pos / 2) : Int)) := (World.ownsRow.cellAt hown2 (pos / 2) (by omega)).trans (outs_get s pos _ _ hj)
        have hfr : W1.frozen? ⟨w.heap.size, pos / 2, none⟩ = false := World.ownsRow.frozenAt hown2 _
        have ho16 := (outAt_step s pos).1
        have HOR := Lib.hid (or_shift (outAt s pos (pos / 2)) x ho16 hx16)
        have hst := (World.ownsRow.stored hown2 (pos / 2) (.int .u8 ((16 * outAt s pos (pos / 2) + nv s pos : Nat) : Int))).1
        rw [outs_set, HX.out] at hst
        have HO := Lib.hid hst
        clear hst
        generalize outAt s pos (pos / 2) = oa at *
        go_wp2_with (go_at_call 36; refine (nibble_yes _ _ _ HNR.out).mono ?_; rintro e w' ⟨rfl, rfl⟩)
        go_roundw
        case rel =>
          rw [HOR.out]
          refine ⟨pos + 1, by omega, by rw [Below.heap_setCell _ _ _ _ (by show K ≠ w.heap.size; omega)]; exact hit2, HO.out, hbel2.setCell (Nat.le_refl _) _, Lib.hid fun i hi h => ?_⟩
          by_cases e : i = pos
          · subst e
            rw [← HRC.out, HNR.out]; rfl
          · exact HD.out i (by omega) h
        case measure => rw [iterPos_of (by rw [Below.heap_setCell _ _ _ _ (by show K ≠ w.heap.size; omega)]; exact hit2), hpos0]; omega
    · have hnx : ∀ ty, (Instr.next (.pointer (some ⟨K, 0, none⟩)) true ty).run Tryd.prog wr = _ := fun ty => Lib.run_next_end_at wr K s pos ty hit hp
      obtain rfl : pos = s.size := by omega
      go_wp2_with fail
      go_ret2
      obtain ⟨l, b1, b2, b3⟩ := bytes_end s h0 HE.out HD.out
      refine ⟨_, _, rfl, hbel, .inr ⟨l, by rw [HR.out, b1], rfl, ?_⟩⟩
      unfold Bys
      rw [b2, b3]
      exact hown

/-- name.Bytes, of any text. -/
theorem bytes_any (s : ByteArray) (w : World) (hs : s.size ≤ 1000000000000) : Calls Tryd.prog 18 #[.string s] w (BytesPost (bytesOf (L s)) w) := by
  by_cases h45 : L s = [45]
  · have e : s = ⟨#[45]⟩ := by rw [← S_L s, h45]
    subst e
    exact bytes_dash w
  · by_cases h : s.size = 0 ∨ s.size % 2 ≠ 0
    · have e : bytesOf (L s) = none := by
        have hl := L_len s
        have h2 := hexesB_eq (L s)
        have h3 : hexesB (L s) = false := by
          unfold hexesB
          rw [decide_eq_false h45]
          rcases h with h | h
          · rw [decide_eq_false (by omega : ¬ 0 < (L s).length)]; simp
          · rw [decide_eq_false (by omega : ¬ (L s).length % 2 = 0)]; simp
        rw [h3] at h2
        cases hb : bytesOf (L s) with
        | none => rfl
        | some x => rw [hb] at h2; cases h2
      rw [e]
      exact bytes_odd s w hs h45 h
    · exact bytes_more s w (by omega) (by omega) hs
end Go.Proofs.YtinabbdecmjcpaaDoor.Hex
